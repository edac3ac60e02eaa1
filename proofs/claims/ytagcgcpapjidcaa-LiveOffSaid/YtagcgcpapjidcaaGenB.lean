/- Each function of the program as a pure one, and the proof that the code keeps that contract. -/
import Derived.Test.YtagcgcpapjidcaaGenA
set_option linter.unusedVariables false
set_option linter.constructorNameAsVariable false
set_option maxRecDepth 100000
namespace Go.Tom
open Go Go.Proofs.Try
noncomputable def live_reckon_j2 (x11 : Int) (x14 : List Bool) (x15 : List Int) : Option (((List Bool) × (List Int) × Int) ⊕ ((List Bool) × (List Int))) :=
  bnd (IntKind.i64.wrap (x11 + (1 : Int))) fun x16 =>
  some (.inl (x14, x15, x16))
noncomputable def live_reckon_j1 (x7 : Int) (x10 : List Int) (x11 : Int) (x12 : Int) (x13 : D_api_Ticket) (x14 : List Bool) : Option (((List Bool) × (List Int) × Int) ⊕ ((List Bool) × (List Int))) :=
  ass (0 ≤ x12 ∧ x12 < (x14.length : Int)) <|
  bif rd false x14 x12 then
    ass (0 ≤ x7 ∧ x7 < (x10.length : Int)) <|
    bnd (wr x10 x7 (IntKind.i64.wrap ((rd (0 : Int) x10 x7) + x13.2.2.1))) fun x17 =>
    live_reckon_j2 x11 x14 x17
  else
    live_reckon_j2 x11 x14 x10
noncomputable def live_reckon_b1 (p0 : D_api_State) (y1 : List Bool) (x7 : Int) (y8 : List Int) (x9 : List Bool) (x10 : List Int) (x11 : Int) : Option (((List Bool) × (List Int) × Int) ⊕ ((List Bool) × (List Int))) :=
  bif decide (x11 < (y8.length : Int)) then
    ass (0 ≤ x11 ∧ x11 < (y8.length : Int)) <|
    bnd (rd (0 : Int) y8 x11) fun x12 =>
    ass (0 ≤ x12 ∧ x12 < (p0.2.1.length : Int)) <|
    bnd (rd z_api_Ticket p0.2.1 x12) fun x13 =>
    bif x13.2.2.2.1 == (1 : Int) then
      ass (x13.2.2.2.2.2 = true → 0 ≤ x13.2.2.2.2.1 ∧ x13.2.2.2.2.1 < (y1.length : Int)) <|
      ass (0 ≤ x12 ∧ x12 < (x9.length : Int)) <|
      bnd (wr x9 x12 (x13.2.2.2.2.2 && (rd false y1 x13.2.2.2.2.1))) fun x18 =>
      live_reckon_j1 x7 x10 x11 x12 x13 x18
    else
      bif x13.2.2.2.1 == (2 : Int) then
        ass (x13.2.2.2.2.2 = true → 0 ≤ x13.2.2.2.2.1 ∧ x13.2.2.2.2.1 < (x10.length : Int)) <|
        ass (0 ≤ x12 ∧ x12 < (x9.length : Int)) <|
        bnd (wr x9 x12 (x13.2.2.2.2.2 && (decide ((rd (0 : Int) x10 x13.2.2.2.2.1) > (0 : Int))))) fun x19 =>
        live_reckon_j1 x7 x10 x11 x12 x13 x19
      else
        live_reckon_j1 x7 x10 x11 x12 x13 x9
  else
    some (.inr (x9, x10))
noncomputable def live_reckon_r2 (p0 : D_api_State) (y1 : List Bool) (x5 : List Bool) (x6 : List Int) (x7 : Int) : Option ((List Bool) × (List Int)) :=
  (fund_Issued p0 x7).bind fun y8 =>
  loopM (fun x : (List Bool) × (List Int) × Int => live_reckon_b1 p0 y1 x7 y8 x.1 x.2.1 x.2.2) (x5, x6, (0 : Int))
noncomputable def live_reckon_k2 (x20 : List Bool) (x21 : List Int) : Option ((List Bool) × (List Int)) :=
  some (x20, x21)
noncomputable def live_reckon (p0 : D_api_State) : Option ((List Bool) × (List Int)) :=
  ass (0 ≤ (p0.2.1.length : Int) ∧ (p0.2.1.length : Int) ≤ (p0.2.1.length : Int) ∧ (p0.2.1.length : Int) ≤ lim) <|
  ass (0 ≤ (p0.1.length : Int) ∧ (p0.1.length : Int) ≤ (p0.1.length : Int) ∧ (p0.1.length : Int) ≤ lim) <|
  (live_Threads p0).bind fun y1 =>
  bnd (List.replicate (p0.2.1.length : Int).toNat false) fun x2 =>
  bnd (List.replicate (p0.1.length : Int).toNat (0 : Int)) fun x3 =>
  (fund_Order p0).bind fun y4 =>
  ass ((y4.length : Int) ≤ limA) <|
  (eachM (fun (s : (List Bool) × (List Int)) x => live_reckon_r2 p0 y1 s.1 s.2 x) y4.reverse (x2, x3)).bind fun s =>
  live_reckon_k2 s.1 s.2
theorem live_reckon.ok {p0 : D_api_State} {r : (List Bool) × (List Int)} (h : live_reckon p0 = some r) : ACall prog 111 [⟨T_api_State, p0⟩] [⟨0, .slice .bool, r.1⟩, ⟨0, .slice (.int .i64), r.2⟩] := by
  replace h := Leads.of h
  unfold live_reckon at h
  refine acall_ofM func111 (by kernel_rfl) rfl (by kernel_rfl) fun w0 F0 hw0 => ?_
  refine W_seq ?_
  refine W_region mixed tys_ok (sup := []) (l := [(1, 0)]) (E' := [(1, .box 0 T_api_State p0)]) (obs := []) (by kernel_rfl) (trivial) ?_
  refine W_seq ?_
  obtain ⟨o1, h⟩ := h.ass
  obtain ⟨o2, h⟩ := h.ass
  obtain ⟨y1, ey1, h⟩ := h.bind
  refine W_regionL mixed tys_ok (sup := [.res [(9, ⟨9, .slice .bool, y1⟩)]]) (l := [(1, 0), (4, 9), (5, 9), (6, 9)]) (E' := [(1, .box 0 T_api_State p0), (4, .box 9 (.slice .bool) (List.replicate (p0.2.1.length : Int).toNat false)), (5, .box 9 (.slice (.int .i64)) (List.replicate (p0.1.length : Int).toNat (0 : Int))), (6, .box 9 (.slice .bool) y1)]) (obs := [0 ≤ (p0.2.1.length : Int) ∧ (p0.2.1.length : Int) ≤ (p0.2.1.length : Int) ∧ (p0.2.1.length : Int) ≤ lim, 0 ≤ (p0.1.length : Int) ∧ (p0.1.length : Int) ≤ (p0.1.length : Int) ∧ (p0.1.length : Int) ≤ lim, ACall prog 71 [⟨T_api_State, p0⟩] [⟨9, .slice .bool, y1⟩], 0 ≤ (p0.1.length : Int) ∧ (p0.1.length : Int) ≤ (p0.1.length : Int) ∧ (p0.1.length : Int) ≤ lim, (⟨.slice .bool, p0.1⟩ : TV) = ⟨.slice .bool, p0.1⟩, (⟨.int .i64, (p0.1.length : Int)⟩ : TV) = ⟨.int .i64, (p0.1.length : Int)⟩, (⟨.slice (.int .i64), List.replicate (p0.1.length : Int).toNat (0 : Int)⟩ : TV) = ⟨.slice (.int .i64), List.replicate (p0.1.length : Int).toNat (0 : Int)⟩]) (by kernel_rfl) (⟨o1, o2, live_Threads.ok ey1, o2, rfl, rfl, rfl⟩) ?_
  refine W_gen (x := List.replicate (p0.2.1.length : Int).toNat false) (En := fun x2 => [(1, .box 0 T_api_State p0), (4, .box 9 (.slice .bool) x2), (5, .box 9 (.slice (.int .i64)) (List.replicate (p0.1.length : Int).toNat (0 : Int))), (6, .box 9 (.slice .bool) y1)]) h (fun x2 h => ?_)
  refine W_gen (x := List.replicate (p0.1.length : Int).toNat (0 : Int)) (En := fun x3 => [(1, .box 0 T_api_State p0), (4, .box 9 (.slice .bool) x2), (5, .box 9 (.slice (.int .i64)) x3), (6, .box 9 (.slice .bool) y1)]) h (fun x3 h => ?_)
  refine W_seq ?_
  refine W_seq ?_
  obtain ⟨y4, ey4, h⟩ := h.bind
  obtain ⟨olim, h⟩ := h.ass
  refine W_backE backsOk tys_ok hw0 (lo := 8) (sup := [.res [(1, ⟨1, .slice (.int .i64), y4⟩)]]) (l1 := [(1, 0), (4, 9), (5, 9), (6, 9), (23, 0)]) (l2 := [1, 4, 5, 6]) (En := fun (s : (List Bool) × (List Int)) => [(1, .box 0 T_api_State p0), (4, .box 9 (.slice .bool) s.1), (5, .box 9 (.slice (.int .i64)) s.2), (6, .box 9 (.slice .bool) y1)]) (Eb := fun (s : (List Bool) × (List Int)) x => [(1, .box 0 T_api_State p0), (4, .box 9 (.slice .bool) s.1), (5, .box 9 (.slice (.int .i64)) s.2), (6, .box 9 (.slice .bool) y1), (8, .v 0 (.int .i64) x)]) (obs := [ACall prog 56 [⟨T_api_State, p0⟩] [⟨1, .slice (.int .i64), y4⟩]]) h rfl rfl rfl rfl (by kernel_rfl) (fund_Order.ok ey4) olim (fun _ => rfl) (by kernel_rfl) ?_ ?_ ?_
  · rintro w0r F0r ⟨x5, x6⟩ x7 K hK
    refine W_region mixed tys_ok (sup := []) (l := [(1, 0), (4, 9), (5, 9), (6, 9), (8, 0)]) (E' := [(1, .box 0 T_api_State p0), (4, .box 9 (.slice .bool) x5), (5, .box 9 (.slice (.int .i64)) x6), (6, .box 9 (.slice .bool) y1), (8, .v 0 (.int .i64) x7)]) (obs := []) (by kernel_rfl) trivial ?_
    exact W_abs hK
  · rintro w0r F0r ⟨x5, x6⟩ x7 K h
    replace h : Leads _ (live_reckon_r2 p0 y1 x5 x6 x7) := h
    unfold live_reckon_r2 at h
    show W _ _ _ _ _ _ [(1, .box 0 T_api_State p0), (4, .box 9 (.slice .bool) x5), (5, .box 9 (.slice (.int .i64)) x6), (6, .box 9 (.slice .bool) y1), (8, .v 0 (.int .i64) x7)]
    refine W_block ?_
    refine W_seq ?_
    obtain ⟨y8, ey8, h⟩ := h.bind
    refine W_region mixed tys_ok (sup := [.res [(9, ⟨9, .slice (.int .i64), y8⟩)]]) (l := [(1, 0), (4, 9), (5, 9), (6, 9), (8, 0), (29, 9), (30, 0), (31, 0)]) (E' := [(1, .box 0 T_api_State p0), (4, .box 9 (.slice .bool) x5), (5, .box 9 (.slice (.int .i64)) x6), (6, .box 9 (.slice .bool) y1), (8, .v 0 (.int .i64) x7), (29, .v 9 (.slice (.int .i64)) y8), (30, .v 0 (.int .i64) (y8.length : Int)), (31, .v 0 (.int .i64) (0 : Int))]) (obs := [ACall prog 59 [⟨T_api_State, p0⟩, ⟨.int .i64, x7⟩] [⟨9, .slice (.int .i64), y8⟩]]) (by kernel_rfl) (fund_Issued.ok ey8) ?_
    refine W_block ?_
    refine W_keep (l := [(1, 0), (4, 9), (5, 9), (6, 9), (8, 0), (29, 9), (30, 0), (31, 0)]) (E' := [(1, .box 0 T_api_State p0), (4, .box 9 (.slice .bool) x5), (5, .box 9 (.slice (.int .i64)) x6), (6, .box 9 (.slice .bool) y1), (8, .v 0 (.int .i64) x7), (29, .v 9 (.slice (.int .i64)) y8), (30, .v 0 (.int .i64) (y8.length : Int)), (31, .v 0 (.int .i64) (0 : Int))]) (by kernel_rfl) ?_
    refine W_loop' (En := fun (x : (List Bool) × (List Int) × Int) => [(1, .box 0 T_api_State p0), (4, .box 9 (.slice .bool) x.1), (5, .box 9 (.slice (.int .i64)) x.2.1), (6, .box 9 (.slice .bool) y1), (8, .v 0 (.int .i64) x7), (29, .v 9 (.slice (.int .i64)) y8), (30, .v 0 (.int .i64) (y8.length : Int)), (31, .v 0 (.int .i64) x.2.2)]) (x := (x5, x6, (0 : Int))) h ?_
    rintro ⟨x9, x10, x11⟩ K h
    replace h : Leads _ (live_reckon_b1 p0 y1 x7 y8 x9 x10 x11) := h
    unfold live_reckon_b1 at h
    show W _ _ _ _ _ _ [(1, .box 0 T_api_State p0), (4, .box 9 (.slice .bool) x9), (5, .box 9 (.slice (.int .i64)) x10), (6, .box 9 (.slice .bool) y1), (8, .v 0 (.int .i64) x7), (29, .v 9 (.slice (.int .i64)) y8), (30, .v 0 (.int .i64) (y8.length : Int)), (31, .v 0 (.int .i64) x11)]
    refine W_seq ?_
    refine W_region mixed tys_ok (sup := []) (l := [(1, 0), (4, 9), (5, 9), (6, 9), (8, 0), (29, 9), (30, 0), (31, 0), (32, 0)]) (E' := [(1, .box 0 T_api_State p0), (4, .box 9 (.slice .bool) x9), (5, .box 9 (.slice (.int .i64)) x10), (6, .box 9 (.slice .bool) y1), (8, .v 0 (.int .i64) x7), (29, .v 9 (.slice (.int .i64)) y8), (30, .v 0 (.int .i64) (y8.length : Int)), (31, .v 0 (.int .i64) x11), (32, .v 0 .bool (decide (x11 < (y8.length : Int))))]) (obs := []) (by kernel_rfl) (trivial) ?_
    refine W_seq ?_
    refine W_cond (β := decide (x11 < (y8.length : Int))) (by kernel_rfl) (fun hb => ?_) (fun hb => ?_)
    · rw [hb] at h; rw [cond_true] at h
      refine W_skip ?_
      refine W_seq ?_
      refine W_block ?_
      refine W_seq ?_
      obtain ⟨o1, h⟩ := h.ass
      refine W_region mixed tys_ok (sup := []) (l := [(1, 0), (4, 9), (5, 9), (6, 9), (8, 0), (10, 0), (29, 9), (30, 0), (31, 0)]) (E' := [(1, .box 0 T_api_State p0), (4, .box 9 (.slice .bool) x9), (5, .box 9 (.slice (.int .i64)) x10), (6, .box 9 (.slice .bool) y1), (8, .v 0 (.int .i64) x7), (10, .v 0 (.int .i64) (rd (0 : Int) y8 x11)), (29, .v 9 (.slice (.int .i64)) y8), (30, .v 0 (.int .i64) (y8.length : Int)), (31, .v 0 (.int .i64) x11)]) (obs := [0 ≤ x11 ∧ x11 < (y8.length : Int)]) (by kernel_rfl) (o1) ?_
      refine W_gen (x := rd (0 : Int) y8 x11) (En := fun x12 => [(1, .box 0 T_api_State p0), (4, .box 9 (.slice .bool) x9), (5, .box 9 (.slice (.int .i64)) x10), (6, .box 9 (.slice .bool) y1), (8, .v 0 (.int .i64) x7), (10, .v 0 (.int .i64) x12), (29, .v 9 (.slice (.int .i64)) y8), (30, .v 0 (.int .i64) (y8.length : Int)), (31, .v 0 (.int .i64) x11)]) h (fun x12 h => ?_)
      refine W_seq ?_
      obtain ⟨o1, h⟩ := h.ass
      refine W_region mixed tys_ok (sup := []) (l := [(1, 0), (4, 9), (5, 9), (6, 9), (8, 0), (10, 0), (11, 9), (29, 9), (30, 0), (31, 0)]) (E' := [(1, .box 0 T_api_State p0), (4, .box 9 (.slice .bool) x9), (5, .box 9 (.slice (.int .i64)) x10), (6, .box 9 (.slice .bool) y1), (8, .v 0 (.int .i64) x7), (10, .v 0 (.int .i64) x12), (11, .box 9 T_api_Ticket (rd z_api_Ticket p0.2.1 x12)), (29, .v 9 (.slice (.int .i64)) y8), (30, .v 0 (.int .i64) (y8.length : Int)), (31, .v 0 (.int .i64) x11)]) (obs := [0 ≤ x12 ∧ x12 < (p0.2.1.length : Int)]) (by kernel_rfl) (o1) ?_
      refine W_gen (x := rd z_api_Ticket p0.2.1 x12) (En := fun x13 => [(1, .box 0 T_api_State p0), (4, .box 9 (.slice .bool) x9), (5, .box 9 (.slice (.int .i64)) x10), (6, .box 9 (.slice .bool) y1), (8, .v 0 (.int .i64) x7), (10, .v 0 (.int .i64) x12), (11, .box 9 T_api_Ticket x13), (29, .v 9 (.slice (.int .i64)) y8), (30, .v 0 (.int .i64) (y8.length : Int)), (31, .v 0 (.int .i64) x11)]) h (fun x13 h => ?_)
      refine W_seq ?_
      refine W_seq ?_
      refine W_region mixed tys_ok (sup := []) (l := [(1, 0), (4, 9), (5, 9), (6, 9), (8, 0), (10, 0), (11, 9), (29, 9), (30, 0), (31, 0), (41, 0)]) (E' := [(1, .box 0 T_api_State p0), (4, .box 9 (.slice .bool) x9), (5, .box 9 (.slice (.int .i64)) x10), (6, .box 9 (.slice .bool) y1), (8, .v 0 (.int .i64) x7), (10, .v 0 (.int .i64) x12), (11, .box 9 T_api_Ticket x13), (29, .v 9 (.slice (.int .i64)) y8), (30, .v 0 (.int .i64) (y8.length : Int)), (31, .v 0 (.int .i64) x11), (41, .v 0 (.int .i64) x13.2.2.2.1)]) (obs := []) (by kernel_rfl) (trivial) ?_
      refine W_block ?_
      refine W_seq ?_
      refine W_region mixed tys_ok (sup := []) (l := [(1, 0), (4, 9), (5, 9), (6, 9), (8, 0), (10, 0), (11, 9), (29, 9), (30, 0), (31, 0), (41, 0), (42, 0)]) (E' := [(1, .box 0 T_api_State p0), (4, .box 9 (.slice .bool) x9), (5, .box 9 (.slice (.int .i64)) x10), (6, .box 9 (.slice .bool) y1), (8, .v 0 (.int .i64) x7), (10, .v 0 (.int .i64) x12), (11, .box 9 T_api_Ticket x13), (29, .v 9 (.slice (.int .i64)) y8), (30, .v 0 (.int .i64) (y8.length : Int)), (31, .v 0 (.int .i64) x11), (41, .v 0 (.int .i64) x13.2.2.2.1), (42, .v 0 .bool (x13.2.2.2.1 == (1 : Int)))]) (obs := []) (by kernel_rfl) (trivial) ?_
      refine W_join h (Ej := fun (x : List Bool) => [(1, .box 0 T_api_State p0), (4, .box 9 (.slice .bool) x), (5, .box 9 (.slice (.int .i64)) x10), (6, .box 9 (.slice .bool) y1), (8, .v 0 (.int .i64) x7), (10, .v 0 (.int .i64) x12), (11, .box 9 T_api_Ticket x13), (29, .v 9 (.slice (.int .i64)) y8), (30, .v 0 (.int .i64) (y8.length : Int)), (31, .v 0 (.int .i64) x11)]) (p := fun x => live_reckon_j1 x7 x10 x11 x12 x13 x) ?_ ?_
      · rintro x14 h
        replace h : Leads _ (live_reckon_j1 x7 x10 x11 x12 x13 x14) := h
        unfold live_reckon_j1 at h
        show W _ _ _ _ _ _ [(1, .box 0 T_api_State p0), (4, .box 9 (.slice .bool) x14), (5, .box 9 (.slice (.int .i64)) x10), (6, .box 9 (.slice .bool) y1), (8, .v 0 (.int .i64) x7), (10, .v 0 (.int .i64) x12), (11, .box 9 T_api_Ticket x13), (29, .v 9 (.slice (.int .i64)) y8), (30, .v 0 (.int .i64) (y8.length : Int)), (31, .v 0 (.int .i64) x11)]
        refine W_blk ?_
        refine W_seq ?_
        obtain ⟨o1, h⟩ := h.ass
        refine W_region mixed tys_ok (sup := []) (l := [(1, 0), (4, 9), (5, 9), (6, 9), (8, 0), (11, 9), (29, 9), (30, 0), (31, 0), (74, 0)]) (E' := [(1, .box 0 T_api_State p0), (4, .box 9 (.slice .bool) x14), (5, .box 9 (.slice (.int .i64)) x10), (6, .box 9 (.slice .bool) y1), (8, .v 0 (.int .i64) x7), (11, .box 9 T_api_Ticket x13), (29, .v 9 (.slice (.int .i64)) y8), (30, .v 0 (.int .i64) (y8.length : Int)), (31, .v 0 (.int .i64) x11), (74, .v 0 .bool (rd false x14 x12))]) (obs := [0 ≤ x12 ∧ x12 < (x14.length : Int)]) (by kernel_rfl) (o1) ?_
        refine W_join h (Ej := fun (x : List Int) => [(1, .box 0 T_api_State p0), (4, .box 9 (.slice .bool) x14), (5, .box 9 (.slice (.int .i64)) x), (6, .box 9 (.slice .bool) y1), (8, .v 0 (.int .i64) x7), (29, .v 9 (.slice (.int .i64)) y8), (30, .v 0 (.int .i64) (y8.length : Int)), (31, .v 0 (.int .i64) x11)]) (p := fun x => live_reckon_j2 x11 x14 x) ?_ ?_
        · rintro x15 h
          replace h : Leads _ (live_reckon_j2 x11 x14 x15) := h
          unfold live_reckon_j2 at h
          show W _ _ _ _ _ _ [(1, .box 0 T_api_State p0), (4, .box 9 (.slice .bool) x14), (5, .box 9 (.slice (.int .i64)) x15), (6, .box 9 (.slice .bool) y1), (8, .v 0 (.int .i64) x7), (29, .v 9 (.slice (.int .i64)) y8), (30, .v 0 (.int .i64) (y8.length : Int)), (31, .v 0 (.int .i64) x11)]
          refine W_blk ?_
          refine W_region mixed tys_ok (sup := []) (l := [(1, 0), (4, 9), (5, 9), (6, 9), (8, 0), (29, 9), (30, 0), (31, 0)]) (E' := [(1, .box 0 T_api_State p0), (4, .box 9 (.slice .bool) x14), (5, .box 9 (.slice (.int .i64)) x15), (6, .box 9 (.slice .bool) y1), (8, .v 0 (.int .i64) x7), (29, .v 9 (.slice (.int .i64)) y8), (30, .v 0 (.int .i64) (y8.length : Int)), (31, .v 0 (.int .i64) (IntKind.i64.wrap (x11 + (1 : Int))))]) (obs := []) (by kernel_rfl) (trivial) ?_
          refine W_gen (x := IntKind.i64.wrap (x11 + (1 : Int))) (En := fun x16 => [(1, .box 0 T_api_State p0), (4, .box 9 (.slice .bool) x14), (5, .box 9 (.slice (.int .i64)) x15), (6, .box 9 (.slice .bool) y1), (8, .v 0 (.int .i64) x7), (29, .v 9 (.slice (.int .i64)) y8), (30, .v 0 (.int .i64) (y8.length : Int)), (31, .v 0 (.int .i64) x16)]) h (fun x16 h => ?_)
          refine W_keep (l := [(1, 0), (4, 9), (5, 9), (6, 9), (8, 0), (29, 9), (30, 0), (31, 0)]) (E' := [(1, .box 0 T_api_State p0), (4, .box 9 (.slice .bool) x14), (5, .box 9 (.slice (.int .i64)) x15), (6, .box 9 (.slice .bool) y1), (8, .v 0 (.int .i64) x7), (29, .v 9 (.slice (.int .i64)) y8), (30, .v 0 (.int .i64) (y8.length : Int)), (31, .v 0 (.int .i64) x16)]) (by kernel_rfl) ?_
          exact W_abs h
        · intro j2
          refine W_cond (β := rd false x14 x12) (by kernel_rfl) (fun hb => ?_) (fun hb => ?_)
          · rw [hb] at h; rw [cond_true] at h
            obtain ⟨o1, h⟩ := h.ass
            refine W_region mixed tys_ok (sup := []) (l := [(1, 0), (4, 9), (5, 9), (6, 9), (8, 0), (29, 9), (30, 0), (31, 0)]) (E' := [(1, .box 0 T_api_State p0), (4, .box 9 (.slice .bool) x14), (5, .box 9 (.slice (.int .i64)) (wr x10 x7 (IntKind.i64.wrap ((rd (0 : Int) x10 x7) + x13.2.2.1)))), (6, .box 9 (.slice .bool) y1), (8, .v 0 (.int .i64) x7), (29, .v 9 (.slice (.int .i64)) y8), (30, .v 0 (.int .i64) (y8.length : Int)), (31, .v 0 (.int .i64) x11)]) (obs := [0 ≤ x7 ∧ x7 < (x10.length : Int), 0 ≤ x7 ∧ x7 < (x10.length : Int)]) (by kernel_rfl) (⟨o1, o1⟩) ?_
            refine W_gen (x := wr x10 x7 (IntKind.i64.wrap ((rd (0 : Int) x10 x7) + x13.2.2.1))) (En := fun x17 => [(1, .box 0 T_api_State p0), (4, .box 9 (.slice .bool) x14), (5, .box 9 (.slice (.int .i64)) x17), (6, .box 9 (.slice .bool) y1), (8, .v 0 (.int .i64) x7), (29, .v 9 (.slice (.int .i64)) y8), (30, .v 0 (.int .i64) (y8.length : Int)), (31, .v 0 (.int .i64) x11)]) h (fun x17 h => ?_)
            refine W_keep (l := [(1, 0), (4, 9), (5, 9), (6, 9), (8, 0), (29, 9), (30, 0), (31, 0)]) (E' := [(1, .box 0 T_api_State p0), (4, .box 9 (.slice .bool) x14), (5, .box 9 (.slice (.int .i64)) x17), (6, .box 9 (.slice .bool) y1), (8, .v 0 (.int .i64) x7), (29, .v 9 (.slice (.int .i64)) y8), (30, .v 0 (.int .i64) (y8.length : Int)), (31, .v 0 (.int .i64) x11)]) (by kernel_rfl) ?_
            exact j2 x17 h
          · rw [hb] at h; rw [cond_false] at h
            refine W_skip ?_
            refine W_keep (l := [(1, 0), (4, 9), (5, 9), (6, 9), (8, 0), (29, 9), (30, 0), (31, 0)]) (E' := [(1, .box 0 T_api_State p0), (4, .box 9 (.slice .bool) x14), (5, .box 9 (.slice (.int .i64)) x10), (6, .box 9 (.slice .bool) y1), (8, .v 0 (.int .i64) x7), (29, .v 9 (.slice (.int .i64)) y8), (30, .v 0 (.int .i64) (y8.length : Int)), (31, .v 0 (.int .i64) x11)]) (by kernel_rfl) ?_
            exact j2 x10 h
      · intro j1
        refine W_cond (β := x13.2.2.2.1 == (1 : Int)) (by kernel_rfl) (fun hb => ?_) (fun hb => ?_)
        · rw [hb] at h; rw [cond_true] at h
          obtain ⟨o1, h⟩ := h.ass
          obtain ⟨o2, h⟩ := h.ass
          refine W_region mixed tys_ok (sup := []) (l := [(1, 0), (4, 9), (5, 9), (6, 9), (8, 0), (10, 0), (11, 9), (29, 9), (30, 0), (31, 0)]) (E' := [(1, .box 0 T_api_State p0), (4, .box 9 (.slice .bool) (wr x9 x12 (x13.2.2.2.2.2 && (rd false y1 x13.2.2.2.2.1)))), (5, .box 9 (.slice (.int .i64)) x10), (6, .box 9 (.slice .bool) y1), (8, .v 0 (.int .i64) x7), (10, .v 0 (.int .i64) x12), (11, .box 9 T_api_Ticket x13), (29, .v 9 (.slice (.int .i64)) y8), (30, .v 0 (.int .i64) (y8.length : Int)), (31, .v 0 (.int .i64) x11)]) (obs := [x13.2.2.2.2.2 = true → 0 ≤ x13.2.2.2.2.1 ∧ x13.2.2.2.2.1 < (y1.length : Int), 0 ≤ x12 ∧ x12 < (x9.length : Int)]) (by kernel_rfl) (⟨o1, o2⟩) ?_
          refine W_gen (x := wr x9 x12 (x13.2.2.2.2.2 && (rd false y1 x13.2.2.2.2.1))) (En := fun x18 => [(1, .box 0 T_api_State p0), (4, .box 9 (.slice .bool) x18), (5, .box 9 (.slice (.int .i64)) x10), (6, .box 9 (.slice .bool) y1), (8, .v 0 (.int .i64) x7), (10, .v 0 (.int .i64) x12), (11, .box 9 T_api_Ticket x13), (29, .v 9 (.slice (.int .i64)) y8), (30, .v 0 (.int .i64) (y8.length : Int)), (31, .v 0 (.int .i64) x11)]) h (fun x18 h => ?_)
          refine W_keep (l := [(1, 0), (4, 9), (5, 9), (6, 9), (8, 0), (10, 0), (11, 9), (29, 9), (30, 0), (31, 0)]) (E' := [(1, .box 0 T_api_State p0), (4, .box 9 (.slice .bool) x18), (5, .box 9 (.slice (.int .i64)) x10), (6, .box 9 (.slice .bool) y1), (8, .v 0 (.int .i64) x7), (10, .v 0 (.int .i64) x12), (11, .box 9 T_api_Ticket x13), (29, .v 9 (.slice (.int .i64)) y8), (30, .v 0 (.int .i64) (y8.length : Int)), (31, .v 0 (.int .i64) x11)]) (by kernel_rfl) ?_
          exact j1 x18 h
        · rw [hb] at h; rw [cond_false] at h
          refine W_seq ?_
          refine W_region mixed tys_ok (sup := []) (l := [(1, 0), (4, 9), (5, 9), (6, 9), (8, 0), (10, 0), (11, 9), (29, 9), (30, 0), (31, 0), (56, 0)]) (E' := [(1, .box 0 T_api_State p0), (4, .box 9 (.slice .bool) x9), (5, .box 9 (.slice (.int .i64)) x10), (6, .box 9 (.slice .bool) y1), (8, .v 0 (.int .i64) x7), (10, .v 0 (.int .i64) x12), (11, .box 9 T_api_Ticket x13), (29, .v 9 (.slice (.int .i64)) y8), (30, .v 0 (.int .i64) (y8.length : Int)), (31, .v 0 (.int .i64) x11), (56, .v 0 .bool (x13.2.2.2.1 == (2 : Int)))]) (obs := []) (by kernel_rfl) (trivial) ?_
          refine W_cond (β := x13.2.2.2.1 == (2 : Int)) (by kernel_rfl) (fun hb => ?_) (fun hb => ?_)
          · rw [hb] at h; rw [cond_true] at h
            obtain ⟨o1, h⟩ := h.ass
            obtain ⟨o2, h⟩ := h.ass
            refine W_region mixed tys_ok (sup := []) (l := [(1, 0), (4, 9), (5, 9), (6, 9), (8, 0), (10, 0), (11, 9), (29, 9), (30, 0), (31, 0)]) (E' := [(1, .box 0 T_api_State p0), (4, .box 9 (.slice .bool) (wr x9 x12 (x13.2.2.2.2.2 && (decide ((rd (0 : Int) x10 x13.2.2.2.2.1) > (0 : Int)))))), (5, .box 9 (.slice (.int .i64)) x10), (6, .box 9 (.slice .bool) y1), (8, .v 0 (.int .i64) x7), (10, .v 0 (.int .i64) x12), (11, .box 9 T_api_Ticket x13), (29, .v 9 (.slice (.int .i64)) y8), (30, .v 0 (.int .i64) (y8.length : Int)), (31, .v 0 (.int .i64) x11)]) (obs := [x13.2.2.2.2.2 = true → 0 ≤ x13.2.2.2.2.1 ∧ x13.2.2.2.2.1 < (x10.length : Int), 0 ≤ x12 ∧ x12 < (x9.length : Int)]) (by kernel_rfl) (⟨o1, o2⟩) ?_
            refine W_gen (x := wr x9 x12 (x13.2.2.2.2.2 && (decide ((rd (0 : Int) x10 x13.2.2.2.2.1) > (0 : Int))))) (En := fun x19 => [(1, .box 0 T_api_State p0), (4, .box 9 (.slice .bool) x19), (5, .box 9 (.slice (.int .i64)) x10), (6, .box 9 (.slice .bool) y1), (8, .v 0 (.int .i64) x7), (10, .v 0 (.int .i64) x12), (11, .box 9 T_api_Ticket x13), (29, .v 9 (.slice (.int .i64)) y8), (30, .v 0 (.int .i64) (y8.length : Int)), (31, .v 0 (.int .i64) x11)]) h (fun x19 h => ?_)
            refine W_keep (l := [(1, 0), (4, 9), (5, 9), (6, 9), (8, 0), (10, 0), (11, 9), (29, 9), (30, 0), (31, 0)]) (E' := [(1, .box 0 T_api_State p0), (4, .box 9 (.slice .bool) x19), (5, .box 9 (.slice (.int .i64)) x10), (6, .box 9 (.slice .bool) y1), (8, .v 0 (.int .i64) x7), (10, .v 0 (.int .i64) x12), (11, .box 9 T_api_Ticket x13), (29, .v 9 (.slice (.int .i64)) y8), (30, .v 0 (.int .i64) (y8.length : Int)), (31, .v 0 (.int .i64) x11)]) (by kernel_rfl) ?_
            exact j1 x19 h
          · rw [hb] at h; rw [cond_false] at h
            refine W_skip ?_
            refine W_keep (l := [(1, 0), (4, 9), (5, 9), (6, 9), (8, 0), (10, 0), (11, 9), (29, 9), (30, 0), (31, 0)]) (E' := [(1, .box 0 T_api_State p0), (4, .box 9 (.slice .bool) x9), (5, .box 9 (.slice (.int .i64)) x10), (6, .box 9 (.slice .bool) y1), (8, .v 0 (.int .i64) x7), (10, .v 0 (.int .i64) x12), (11, .box 9 T_api_Ticket x13), (29, .v 9 (.slice (.int .i64)) y8), (30, .v 0 (.int .i64) (y8.length : Int)), (31, .v 0 (.int .i64) x11)]) (by kernel_rfl) ?_
            exact j1 x9 h
    · rw [hb] at h; rw [cond_false] at h
      refine W_exit rfl ?_
      refine W_blk ?_
      refine W_keep (l := [(1, 0), (4, 9), (5, 9), (6, 9)]) (E' := [(1, .box 0 T_api_State p0), (4, .box 9 (.slice .bool) x9), (5, .box 9 (.slice (.int .i64)) x10), (6, .box 9 (.slice .bool) y1)]) (by kernel_rfl) ?_
      exact W_abs h
  · rintro w0m D ⟨x20, x21⟩ htied h
    replace h : Leads _ (live_reckon_k2 x20 x21) := h
    unfold live_reckon_k2 at h
    show W _ _ _ _ _ _ [(1, .box 0 T_api_State p0), (4, .box 9 (.slice .bool) x20), (5, .box 9 (.slice (.int .i64)) x21), (6, .box 9 (.slice .bool) y1)]
    refine W_seq ?_
    refine W_keep (l := [(1, 0), (4, 0), (5, 0), (6, 9)]) (E' := [(1, .box 0 T_api_State p0), (4, .box 0 (.slice .bool) x20), (5, .box 0 (.slice (.int .i64)) x21), (6, .box 9 (.slice .bool) y1)]) (by kernel_rfl) ?_
    refine W_regionL mixed tys_ok (sup := []) (l := [(2, 0), (3, 0)]) (E' := [(2, .v 0 (.slice .bool) x20), (3, .v 0 (.slice (.int .i64)) x21)]) (obs := [(⟨.slice (.int .i64), x21⟩ : TV) = ⟨.slice (.int .i64), x21⟩]) (by kernel_rfl) (rfl) ?_
    refine W_keep (l := [(2, 0), (3, 0)]) (E' := [(2, .v 0 (.slice .bool) x20), (3, .v 0 (.slice (.int .i64)) x21)]) (by kernel_rfl) ?_
    replace h : ((x20, x21)) = r := h
    subst h
    exact W_retM tys_ok htied rfl (by kernel_rfl) (by kernel_rfl)

noncomputable def live_Tickets (p0 : D_api_State) : Option (List Bool) :=
  (live_reckon p0).bind fun y1 =>
  some y1.1
theorem live_Tickets.ok {p0 : D_api_State} {r : List Bool} (h : live_Tickets p0 = some r) : ACall prog 69 [⟨T_api_State, p0⟩] [⟨0, .slice .bool, r⟩] := by
  replace h := Leads.of h
  unfold live_Tickets at h
  refine acall_of func69 (by kernel_rfl) rfl (by kernel_rfl) fun w0 F0 hw0 => ?_
  refine W_seq ?_
  refine W_region mixed tys_ok (sup := []) (l := [(1, 0)]) (E' := [(1, .box 0 T_api_State p0)]) (obs := []) (by kernel_rfl) (trivial) ?_
  refine W_seq ?_
  obtain ⟨y1, ey1, h⟩ := h.bind
  refine W_region mixed tys_ok (sup := [.res [(0, ⟨0, .slice .bool, y1.1⟩), (0, ⟨0, .slice (.int .i64), y1.2⟩)]]) (l := [(3, 0)]) (E' := [(3, .v 0 (.slice .bool) y1.1)]) (obs := [ACall prog 111 [⟨T_api_State, p0⟩] [⟨0, .slice .bool, y1.1⟩, ⟨0, .slice (.int .i64), y1.2⟩]]) (by kernel_rfl) (live_reckon.ok ey1) ?_
  refine W_seq ?_
  refine W_region mixed tys_ok (sup := []) (l := [(2, 0)]) (E' := [(2, .v 0 (.slice .bool) y1.1)]) (obs := []) (by kernel_rfl) (trivial) ?_
  refine W_keep (l := [(2, 0)]) (E' := [(2, .v 0 (.slice .bool) y1.1)]) (by kernel_rfl) ?_
  replace h : y1.1 = r := h
  subst h
  exact W_ret tys_ok hw0 (by kernel_rfl) (by kernel_rfl)

noncomputable def live_Amounts (p0 : D_api_State) : Option (List Int) :=
  (live_reckon p0).bind fun y1 =>
  some y1.2
theorem live_Amounts.ok {p0 : D_api_State} {r : List Int} (h : live_Amounts p0 = some r) : ACall prog 70 [⟨T_api_State, p0⟩] [⟨0, .slice (.int .i64), r⟩] := by
  replace h := Leads.of h
  unfold live_Amounts at h
  refine acall_of func70 (by kernel_rfl) rfl (by kernel_rfl) fun w0 F0 hw0 => ?_
  refine W_seq ?_
  refine W_region mixed tys_ok (sup := []) (l := [(1, 0)]) (E' := [(1, .box 0 T_api_State p0)]) (obs := []) (by kernel_rfl) (trivial) ?_
  refine W_seq ?_
  obtain ⟨y1, ey1, h⟩ := h.bind
  refine W_region mixed tys_ok (sup := [.res [(0, ⟨0, .slice .bool, y1.1⟩), (0, ⟨0, .slice (.int .i64), y1.2⟩)]]) (l := [(4, 0)]) (E' := [(4, .v 0 (.slice (.int .i64)) y1.2)]) (obs := [ACall prog 111 [⟨T_api_State, p0⟩] [⟨0, .slice .bool, y1.1⟩, ⟨0, .slice (.int .i64), y1.2⟩]]) (by kernel_rfl) (live_reckon.ok ey1) ?_
  refine W_seq ?_
  refine W_region mixed tys_ok (sup := []) (l := [(2, 0)]) (E' := [(2, .v 0 (.slice (.int .i64)) y1.2)]) (obs := []) (by kernel_rfl) (trivial) ?_
  refine W_keep (l := [(2, 0)]) (E' := [(2, .v 0 (.slice (.int .i64)) y1.2)]) (by kernel_rfl) ?_
  replace h : y1.2 = r := h
  subst h
  exact W_ret tys_ok hw0 (by kernel_rfl) (by kernel_rfl)

noncomputable def r11_Ints_j1 : Option (Bool) :=
  some true
noncomputable def r11_Ints_b1 (p0 : List Int) (p1 : List Int) (x1 : Int) : Option (Int ⊕ Bool) :=
  bif decide (x1 < (p0.length : Int)) then
    ass (0 ≤ x1 ∧ x1 < (p0.length : Int)) <|
    ass (0 ≤ x1 ∧ x1 < (p1.length : Int)) <|
    bif (rd (0 : Int) p0 x1) != (rd (0 : Int) p1 x1) then
      some (.inr false)
    else
      bnd (IntKind.i64.wrap (x1 + (1 : Int))) fun x2 =>
      some (.inl x2)
  else
    (r11_Ints_j1).map .inr
noncomputable def r11_Ints (p0 : List Int) (p1 : List Int) : Option Bool :=
  bif (p0.length : Int) != (p1.length : Int) then
    some false
  else
    loopM (fun x : Int => r11_Ints_b1 p0 p1 x) (0 : Int)
theorem r11_Ints.ok {p0 : List Int} {p1 : List Int} {r : Bool} (h : r11_Ints p0 p1 = some r) : ACall prog 22 [⟨.slice (.int .i64), p0⟩, ⟨.slice (.int .i64), p1⟩] [⟨0, .bool, r⟩] := by
  replace h := Leads.of h
  unfold r11_Ints at h
  refine acall_of func22 (by kernel_rfl) rfl (by kernel_rfl) fun w0 F0 hw0 => ?_
  refine W_seq ?_
  refine W_region mixed tys_ok (sup := []) (l := [(0, 0), (1, 0)]) (E' := [(0, .v 0 (.slice (.int .i64)) p0), (1, .v 0 (.slice (.int .i64)) p1)]) (obs := []) (by kernel_rfl) (trivial) ?_
  refine W_seq ?_
  refine W_seq ?_
  refine W_region mixed tys_ok (sup := []) (l := [(0, 0), (1, 0), (10, 0)]) (E' := [(0, .v 0 (.slice (.int .i64)) p0), (1, .v 0 (.slice (.int .i64)) p1), (10, .v 0 .bool ((p0.length : Int) != (p1.length : Int)))]) (obs := []) (by kernel_rfl) (trivial) ?_
  refine W_cond (β := (p0.length : Int) != (p1.length : Int)) (by kernel_rfl) (fun hb => ?_) (fun hb => ?_)
  · rw [hb] at h; rw [cond_true] at h
    refine W_seq ?_
    refine W_region mixed tys_ok (sup := []) (l := [(4, 0)]) (E' := [(4, .v 0 .bool false)]) (obs := []) (by kernel_rfl) (trivial) ?_
    refine W_keep (l := [(4, 0)]) (E' := [(4, .v 0 .bool false)]) (by kernel_rfl) ?_
    replace h : false = r := h
    subst h
    exact W_ret tys_ok hw0 (by kernel_rfl) (by kernel_rfl)
  · rw [hb] at h; rw [cond_false] at h
    refine W_skip ?_
    refine W_seq ?_
    refine W_seq ?_
    refine W_region mixed tys_ok (sup := []) (l := [(0, 0), (1, 0), (5, 0)]) (E' := [(0, .v 0 (.slice (.int .i64)) p0), (1, .v 0 (.slice (.int .i64)) p1), (5, .v 0 (.int .i64) (0 : Int))]) (obs := []) (by kernel_rfl) (trivial) ?_
    refine W_join h (Ej := fun (x : Unit) => []) (p := fun x => r11_Ints_j1) ?_ ?_
    · rintro ⟨⟩ h
      replace h : Leads _ (r11_Ints_j1) := h
      unfold r11_Ints_j1 at h
      show W _ _ _ _ _ _ []
      refine W_seq ?_
      refine W_region mixed tys_ok (sup := []) (l := [(4, 0)]) (E' := [(4, .v 0 .bool true)]) (obs := []) (by kernel_rfl) (trivial) ?_
      refine W_keep (l := [(4, 0)]) (E' := [(4, .v 0 .bool true)]) (by kernel_rfl) ?_
      replace h : true = r := h
      subst h
      exact W_ret tys_ok hw0 (by kernel_rfl) (by kernel_rfl)
    · intro j1
      refine W_block ?_
      refine W_keep (l := [(0, 0), (1, 0), (5, 0)]) (E' := [(0, .v 0 (.slice (.int .i64)) p0), (1, .v 0 (.slice (.int .i64)) p1), (5, .v 0 (.int .i64) (0 : Int))]) (by kernel_rfl) ?_
      refine W_loop' (En := fun (x : Int) => [(0, .v 0 (.slice (.int .i64)) p0), (1, .v 0 (.slice (.int .i64)) p1), (5, .v 0 (.int .i64) x)]) (x := (0 : Int)) h ?_
      rintro x1 K h
      replace h : Leads _ (r11_Ints_b1 p0 p1 x1) := h
      unfold r11_Ints_b1 at h
      show W _ _ _ _ _ _ [(0, .v 0 (.slice (.int .i64)) p0), (1, .v 0 (.slice (.int .i64)) p1), (5, .v 0 (.int .i64) x1)]
      refine W_seq ?_
      refine W_seq ?_
      refine W_region mixed tys_ok (sup := []) (l := [(0, 0), (1, 0), (5, 0), (14, 0)]) (E' := [(0, .v 0 (.slice (.int .i64)) p0), (1, .v 0 (.slice (.int .i64)) p1), (5, .v 0 (.int .i64) x1), (14, .v 0 .bool (decide (x1 < (p0.length : Int))))]) (obs := []) (by kernel_rfl) (trivial) ?_
      refine W_cond (β := decide (x1 < (p0.length : Int))) (by kernel_rfl) (fun hb => ?_) (fun hb => ?_)
      · rw [hb] at h; rw [cond_true] at h
        refine W_skip ?_
        refine W_seq ?_
        refine W_block ?_
        refine W_seq ?_
        obtain ⟨o1, h⟩ := h.ass
        obtain ⟨o2, h⟩ := h.ass
        refine W_region mixed tys_ok (sup := []) (l := [(0, 0), (1, 0), (5, 0), (25, 0)]) (E' := [(0, .v 0 (.slice (.int .i64)) p0), (1, .v 0 (.slice (.int .i64)) p1), (5, .v 0 (.int .i64) x1), (25, .v 0 .bool ((rd (0 : Int) p0 x1) != (rd (0 : Int) p1 x1)))]) (obs := [0 ≤ x1 ∧ x1 < (p0.length : Int), 0 ≤ x1 ∧ x1 < (p1.length : Int)]) (by kernel_rfl) (⟨o1, o2⟩) ?_
        refine W_cond (β := (rd (0 : Int) p0 x1) != (rd (0 : Int) p1 x1)) (by kernel_rfl) (fun hb => ?_) (fun hb => ?_)
        · rw [hb] at h; rw [cond_true] at h
          refine W_seq ?_
          refine W_region mixed tys_ok (sup := []) (l := [(4, 0)]) (E' := [(4, .v 0 .bool false)]) (obs := []) (by kernel_rfl) (trivial) ?_
          refine W_keep (l := [(4, 0)]) (E' := [(4, .v 0 .bool false)]) (by kernel_rfl) ?_
          replace h : false = r := h
          subst h
          exact W_ret tys_ok hw0 (by kernel_rfl) (by kernel_rfl)
        · rw [hb] at h; rw [cond_false] at h
          refine W_skip ?_
          refine W_blk ?_
          refine W_region mixed tys_ok (sup := []) (l := [(0, 0), (1, 0), (5, 0)]) (E' := [(0, .v 0 (.slice (.int .i64)) p0), (1, .v 0 (.slice (.int .i64)) p1), (5, .v 0 (.int .i64) (IntKind.i64.wrap (x1 + (1 : Int))))]) (obs := []) (by kernel_rfl) (trivial) ?_
          refine W_gen (x := IntKind.i64.wrap (x1 + (1 : Int))) (En := fun x2 => [(0, .v 0 (.slice (.int .i64)) p0), (1, .v 0 (.slice (.int .i64)) p1), (5, .v 0 (.int .i64) x2)]) h (fun x2 h => ?_)
          refine W_keep (l := [(0, 0), (1, 0), (5, 0)]) (E' := [(0, .v 0 (.slice (.int .i64)) p0), (1, .v 0 (.slice (.int .i64)) p1), (5, .v 0 (.int .i64) x2)]) (by kernel_rfl) ?_
          exact W_abs h
      · rw [hb] at h; rw [cond_false] at h
        refine W_exit rfl ?_
        refine W_keep (l := []) (E' := []) (by kernel_rfl) ?_
        exact j1 () h.back

noncomputable def state_get_bool (p0 : List Bool) (p1 : Int) (p2 : Bool → Option Bool) : Option (Bool × Bool) :=
  ass ((!((decide (p1 < (0 : Int))) || (decide (p1 ≥ (p0.length : Int))))) = true → 0 ≤ p1 ∧ p1 < (p0.length : Int)) <|
  (bif !((decide (p1 < (0 : Int))) || (decide (p1 ≥ (p0.length : Int)))) then p2 (rd false p0 p1) else some false).bind fun y1 =>
  bif ((decide (p1 < (0 : Int))) || (decide (p1 ≥ (p0.length : Int)))) || (!y1) then
    some (false, false)
  else
    ass (0 ≤ p1 ∧ p1 < (p0.length : Int)) <|
    bnd (rd false p0 p1) fun x2 =>
    some (x2, true)
theorem state_get_bool.ok {p0 : List Bool} {p1 : Int} {p2 : Bool → Option Bool} {r : Bool × Bool} (h : state_get_bool p0 p1 p2 = some r) : ACall prog 119 [⟨.slice .bool, p0⟩, ⟨.int .i64, p1⟩, ⟨.fn .bool .bool, p2⟩] [⟨0, .bool, r.1⟩, ⟨0, .bool, r.2⟩] := by
  replace h := Leads.of h
  unfold state_get_bool at h
  refine acall_of func119 (by kernel_rfl) rfl (by kernel_rfl) fun w0 F0 hw0 => ?_
  refine W_seq ?_
  refine W_region mixed tys_ok (sup := []) (l := [(0, 0), (1, 0), (2, 0), (6, 0)]) (E' := [(0, .v 0 (.slice .bool) p0), (1, .v 0 (.int .i64) p1), (2, .v 0 (.fn .bool .bool) p2), (6, .v 0 .bool false)]) (obs := []) (by kernel_rfl) (trivial) ?_
  refine W_seq ?_
  refine W_seq ?_
  obtain ⟨o1, h⟩ := h.ass
  obtain ⟨y1, ey1, h⟩ := h.bind
  refine W_region mixed tys_ok (sup := [.res [(0, ⟨9, .bool, y1⟩)]]) (l := [(0, 0), (1, 0), (6, 0), (24, 0)]) (E' := [(0, .v 0 (.slice .bool) p0), (1, .v 0 (.int .i64) p1), (6, .v 0 .bool false), (24, .v 0 .bool (((decide (p1 < (0 : Int))) || (decide (p1 ≥ (p0.length : Int)))) || (!y1)))]) (obs := [(!((decide (p1 < (0 : Int))) || (decide (p1 ≥ (p0.length : Int))))) = true → 0 ≤ p1 ∧ p1 < (p0.length : Int), (!((decide (p1 < (0 : Int))) || (decide (p1 ≥ (p0.length : Int))))) = true → p2 (rd false p0 p1) = some y1]) (by kernel_rfl) (⟨o1, fun hc => bif_some ey1 hc⟩) ?_
  refine W_cond (β := ((decide (p1 < (0 : Int))) || (decide (p1 ≥ (p0.length : Int)))) || (!y1)) (by kernel_rfl) (fun hb => ?_) (fun hb => ?_)
  · rw [hb] at h; rw [cond_true] at h
    refine W_seq ?_
    refine W_region mixed tys_ok (sup := []) (l := [(6, 0), (7, 0)]) (E' := [(6, .v 0 .bool false), (7, .v 0 .bool false)]) (obs := []) (by kernel_rfl) (trivial) ?_
    refine W_keep (l := [(6, 0), (7, 0)]) (E' := [(6, .v 0 .bool false), (7, .v 0 .bool false)]) (by kernel_rfl) ?_
    replace h : ((false, false)) = r := h
    subst h
    exact W_ret tys_ok hw0 (by kernel_rfl) (by kernel_rfl)
  · rw [hb] at h; rw [cond_false] at h
    refine W_skip ?_
    refine W_seq ?_
    obtain ⟨o1, h⟩ := h.ass
    refine W_region mixed tys_ok (sup := []) (l := [(6, 0), (7, 0)]) (E' := [(6, .v 0 .bool (rd false p0 p1)), (7, .v 0 .bool true)]) (obs := [0 ≤ p1 ∧ p1 < (p0.length : Int)]) (by kernel_rfl) (o1) ?_
    refine W_gen (x := rd false p0 p1) (En := fun x2 => [(6, .v 0 .bool x2), (7, .v 0 .bool true)]) h (fun x2 h => ?_)
    refine W_keep (l := [(6, 0), (7, 0)]) (E' := [(6, .v 0 .bool x2), (7, .v 0 .bool true)]) (by kernel_rfl) ?_
    replace h : ((x2, true)) = r := h
    subst h
    exact W_ret tys_ok hw0 (by kernel_rfl) (by kernel_rfl)

noncomputable def state_coinUsed (p0 : Bool) : Option Bool :=
  some p0
theorem state_coinUsed.ok {p0 : Bool} {r : Bool} (h : state_coinUsed p0 = some r) : ACall prog 120 [⟨.bool, p0⟩] [⟨0, .bool, r⟩] := by
  replace h := Leads.of h
  unfold state_coinUsed at h
  refine acall_of func120 (by kernel_rfl) rfl (by kernel_rfl) fun w0 F0 hw0 => ?_
  refine W_seq ?_
  refine W_region mixed tys_ok (sup := []) (l := [(0, 0)]) (E' := [(0, .v 0 .bool p0)]) (obs := []) (by kernel_rfl) (trivial) ?_
  refine W_seq ?_
  refine W_region mixed tys_ok (sup := []) (l := [(2, 0)]) (E' := [(2, .v 0 .bool p0)]) (obs := []) (by kernel_rfl) (trivial) ?_
  refine W_keep (l := [(2, 0)]) (E' := [(2, .v 0 .bool p0)]) (by kernel_rfl) ?_
  replace h : p0 = r := h
  subst h
  exact W_ret tys_ok hw0 (by kernel_rfl) (by kernel_rfl)

noncomputable def state_Coin (p0 : D_api_State) (p1 : Int) : Option Bool :=
  (state_get_bool p0.1 p1 (fun x => state_coinUsed x)).bind fun y1 =>
  some y1.2
theorem state_Coin.ok {p0 : D_api_State} {p1 : Int} {r : Bool} (h : state_Coin p0 p1 = some r) : ACall prog 94 [⟨T_api_State, p0⟩, ⟨.int .i64, p1⟩] [⟨0, .bool, r⟩] := by
  replace h := Leads.of h
  unfold state_Coin at h
  refine acall_of func94 (by kernel_rfl) rfl (by kernel_rfl) fun w0 F0 hw0 => ?_
  refine W_seq ?_
  refine W_region mixed tys_ok (sup := []) (l := [(1, 0), (2, 0)]) (E' := [(1, .v 0 (.int .i64) p1), (2, .box 0 T_api_State p0)]) (obs := []) (by kernel_rfl) (trivial) ?_
  refine W_seq ?_
  obtain ⟨y1, ey1, h⟩ := h.bind
  refine W_region mixed tys_ok (sup := [.fn .bool .bool (fun x => state_coinUsed x), .res [(0, ⟨0, .bool, y1.1⟩), (0, ⟨0, .bool, y1.2⟩)]]) (l := [(6, 0)]) (E' := [(6, .v 0 .bool y1.2)]) (obs := [∀ x y, (fun x => state_coinUsed x) x = some y → ACall prog 120 (unprod .bool x ++ []) [⟨9, .bool, y⟩], ACall prog 119 [⟨.slice .bool, p0.1⟩, ⟨.int .i64, p1⟩, ⟨.fn .bool .bool, fun x => state_coinUsed x⟩] [⟨0, .bool, y1.1⟩, ⟨0, .bool, y1.2⟩]]) (by kernel_rfl) (⟨fun x y e => ACall.flat rfl (state_coinUsed.ok e), state_get_bool.ok ey1⟩) ?_
  refine W_seq ?_
  refine W_region mixed tys_ok (sup := []) (l := [(4, 0)]) (E' := [(4, .v 0 .bool y1.2)]) (obs := []) (by kernel_rfl) (trivial) ?_
  refine W_keep (l := [(4, 0)]) (E' := [(4, .v 0 .bool y1.2)]) (by kernel_rfl) ?_
  replace h : y1.2 = r := h
  subst h
  exact W_ret tys_ok hw0 (by kernel_rfl) (by kernel_rfl)

noncomputable def live_Awake (p0 : D_api_State) (p1 : Int) : Option Bool :=
  (state_Coin p0 p1).bind fun y1 =>
  (bif y1 then live_Amounts p0 else some ([] : List Int)).bind fun y2 =>
  ass (y1 = true → 0 ≤ p1 ∧ p1 < (y2.length : Int)) <|
  bnd (y1 && (decide ((rd (0 : Int) y2 p1) > (0 : Int)))) fun x3 =>
  some x3
theorem live_Awake.ok {p0 : D_api_State} {p1 : Int} {r : Bool} (h : live_Awake p0 p1 = some r) : ACall prog 74 [⟨T_api_State, p0⟩, ⟨.int .i64, p1⟩] [⟨0, .bool, r⟩] := by
  replace h := Leads.of h
  unfold live_Awake at h
  refine acall_of func74 (by kernel_rfl) rfl (by kernel_rfl) fun w0 F0 hw0 => ?_
  refine W_seq ?_
  refine W_region mixed tys_ok (sup := []) (l := [(1, 0), (2, 0)]) (E' := [(1, .v 0 (.int .i64) p1), (2, .box 0 T_api_State p0)]) (obs := []) (by kernel_rfl) (trivial) ?_
  refine W_seq ?_
  obtain ⟨y1, ey1, h⟩ := h.bind
  obtain ⟨y2, ey2, h⟩ := h.bind
  obtain ⟨o1, h⟩ := h.ass
  refine W_region mixed tys_ok (sup := [.res [(0, ⟨0, .bool, y1⟩)], .res [(0, ⟨0, .slice (.int .i64), y2⟩)]]) (l := [(4, 0)]) (E' := [(4, .v 0 .bool (y1 && (decide ((rd (0 : Int) y2 p1) > (0 : Int)))))]) (obs := [ACall prog 94 [⟨T_api_State, p0⟩, ⟨.int .i64, p1⟩] [⟨0, .bool, y1⟩], y1 = true → ACall prog 70 [⟨T_api_State, p0⟩] [⟨0, .slice (.int .i64), y2⟩], y1 = true → 0 ≤ p1 ∧ p1 < (y2.length : Int)]) (by kernel_rfl) (⟨state_Coin.ok ey1, fun hc => live_Amounts.ok (bif_some ey2 hc), o1⟩) ?_
  refine W_gen (x := y1 && (decide ((rd (0 : Int) y2 p1) > (0 : Int)))) (En := fun x3 => [(4, .v 0 .bool x3)]) h (fun x3 h => ?_)
  refine W_keep (l := [(4, 0)]) (E' := [(4, .v 0 .bool x3)]) (by kernel_rfl) ?_
  replace h : x3 = r := h
  subst h
  exact W_ret tys_ok hw0 (by kernel_rfl) (by kernel_rfl)

noncomputable def live_Dead_j1 (x2 : List Int) : Option (List Int) :=
  some x2
noncomputable def live_Dead_j2 (x4 : Int) (x6 : List Int) : Option (((List Int) × Int) ⊕ (List Int)) :=
  bnd (IntKind.i64.wrap (x4 + (1 : Int))) fun x7 =>
  some (.inl (x6, x7))
noncomputable def live_Dead_b1 (p0 : D_api_State) (y1 : List Bool) (x3 : List Int) (x4 : Int) : Option (((List Int) × Int) ⊕ (List Int)) :=
  bif decide (x4 < (y1.length : Int)) then
    ass (0 ≤ x4 ∧ x4 < (y1.length : Int)) <|
    bnd (rd false y1 x4) fun x5 =>
    ass (0 ≤ x4 ∧ x4 < (p0.2.1.length : Int)) <|
    bif (rd z_api_Ticket p0.2.1 x4).1 && (!x5) then
      ass (((x3.length + [x4].length : Nat) : Int) ≤ limA) <|
      bnd (x3 ++ [x4]) fun x8 =>
      live_Dead_j2 x4 x8
    else
      live_Dead_j2 x4 x3
  else
    (live_Dead_j1 x3).map .inr
noncomputable def live_Dead (p0 : D_api_State) : Option (List Int) :=
  (live_Tickets p0).bind fun y1 =>
  loopM (fun x : (List Int) × Int => live_Dead_b1 p0 y1 x.1 x.2) (([] : List Int), (0 : Int))
theorem live_Dead.ok {p0 : D_api_State} {r : List Int} (h : live_Dead p0 = some r) : ACall prog 75 [⟨T_api_State, p0⟩] [⟨9, .slice (.int .i64), r⟩] := by
  replace h := Leads.of h
  unfold live_Dead at h
  refine acall_of func75 (by kernel_rfl) rfl (by kernel_rfl) fun w0 F0 hw0 => ?_
  refine W_seq ?_
  refine W_region mixed tys_ok (sup := []) (l := [(1, 0), (2, 9)]) (E' := [(1, .box 0 T_api_State p0), (2, .v 9 (.slice (.int .i64)) ([] : List Int))]) (obs := []) (by kernel_rfl) (trivial) ?_
  refine W_seq ?_
  refine W_seq ?_
  obtain ⟨y1, ey1, h⟩ := h.bind
  refine W_region mixed tys_ok (sup := [.res [(0, ⟨0, .slice .bool, y1⟩)]]) (l := [(1, 0), (2, 9), (6, 0), (7, 0), (8, 0)]) (E' := [(1, .box 0 T_api_State p0), (2, .v 9 (.slice (.int .i64)) ([] : List Int)), (6, .v 0 (.slice .bool) y1), (7, .v 0 (.int .i64) (y1.length : Int)), (8, .v 0 (.int .i64) (0 : Int))]) (obs := [ACall prog 69 [⟨T_api_State, p0⟩] [⟨0, .slice .bool, y1⟩]]) (by kernel_rfl) (live_Tickets.ok ey1) ?_
  refine W_join h (Ej := fun (x : List Int) => [(2, .v 9 (.slice (.int .i64)) x)]) (p := fun x => live_Dead_j1 x) ?_ ?_
  · rintro x2 h
    replace h : Leads _ (live_Dead_j1 x2) := h
    unfold live_Dead_j1 at h
    show W _ _ _ _ _ _ [(2, .v 9 (.slice (.int .i64)) x2)]
    refine W_seq ?_
    refine W_region mixed tys_ok (sup := []) (l := [(2, 9)]) (E' := [(2, .v 9 (.slice (.int .i64)) x2)]) (obs := []) (by kernel_rfl) (trivial) ?_
    refine W_keep (l := [(2, 9)]) (E' := [(2, .v 9 (.slice (.int .i64)) x2)]) (by kernel_rfl) ?_
    replace h : x2 = r := h
    subst h
    exact W_ret tys_ok hw0 (by kernel_rfl) (by kernel_rfl)
  · intro j1
    refine W_block ?_
    refine W_keep (l := [(1, 0), (2, 9), (6, 0), (7, 0), (8, 0)]) (E' := [(1, .box 0 T_api_State p0), (2, .v 9 (.slice (.int .i64)) ([] : List Int)), (6, .v 0 (.slice .bool) y1), (7, .v 0 (.int .i64) (y1.length : Int)), (8, .v 0 (.int .i64) (0 : Int))]) (by kernel_rfl) ?_
    refine W_loop' (En := fun (x : (List Int) × Int) => [(1, .box 0 T_api_State p0), (2, .v 9 (.slice (.int .i64)) x.1), (6, .v 0 (.slice .bool) y1), (7, .v 0 (.int .i64) (y1.length : Int)), (8, .v 0 (.int .i64) x.2)]) (x := (([] : List Int), (0 : Int))) h ?_
    rintro ⟨x3, x4⟩ K h
    replace h : Leads _ (live_Dead_b1 p0 y1 x3 x4) := h
    unfold live_Dead_b1 at h
    show W _ _ _ _ _ _ [(1, .box 0 T_api_State p0), (2, .v 9 (.slice (.int .i64)) x3), (6, .v 0 (.slice .bool) y1), (7, .v 0 (.int .i64) (y1.length : Int)), (8, .v 0 (.int .i64) x4)]
    refine W_seq ?_
    refine W_region mixed tys_ok (sup := []) (l := [(1, 0), (2, 9), (6, 0), (7, 0), (8, 0), (9, 0)]) (E' := [(1, .box 0 T_api_State p0), (2, .v 9 (.slice (.int .i64)) x3), (6, .v 0 (.slice .bool) y1), (7, .v 0 (.int .i64) (y1.length : Int)), (8, .v 0 (.int .i64) x4), (9, .v 0 .bool (decide (x4 < (y1.length : Int))))]) (obs := []) (by kernel_rfl) (trivial) ?_
    refine W_seq ?_
    refine W_cond (β := decide (x4 < (y1.length : Int))) (by kernel_rfl) (fun hb => ?_) (fun hb => ?_)
    · rw [hb] at h; rw [cond_true] at h
      refine W_skip ?_
      refine W_seq ?_
      refine W_block ?_
      refine W_seq ?_
      obtain ⟨o1, h⟩ := h.ass
      refine W_region mixed tys_ok (sup := []) (l := [(1, 0), (2, 9), (3, 0), (4, 0), (6, 0), (7, 0), (8, 0)]) (E' := [(1, .box 0 T_api_State p0), (2, .v 9 (.slice (.int .i64)) x3), (3, .v 0 (.int .i64) x4), (4, .v 0 .bool (rd false y1 x4)), (6, .v 0 (.slice .bool) y1), (7, .v 0 (.int .i64) (y1.length : Int)), (8, .v 0 (.int .i64) x4)]) (obs := [0 ≤ x4 ∧ x4 < (y1.length : Int)]) (by kernel_rfl) (o1) ?_
      refine W_gen (x := rd false y1 x4) (En := fun x5 => [(1, .box 0 T_api_State p0), (2, .v 9 (.slice (.int .i64)) x3), (3, .v 0 (.int .i64) x4), (4, .v 0 .bool x5), (6, .v 0 (.slice .bool) y1), (7, .v 0 (.int .i64) (y1.length : Int)), (8, .v 0 (.int .i64) x4)]) h (fun x5 h => ?_)
      refine W_seq ?_
      obtain ⟨o1, h⟩ := h.ass
      refine W_region mixed tys_ok (sup := []) (l := [(1, 0), (2, 9), (3, 0), (6, 0), (7, 0), (8, 0), (22, 0)]) (E' := [(1, .box 0 T_api_State p0), (2, .v 9 (.slice (.int .i64)) x3), (3, .v 0 (.int .i64) x4), (6, .v 0 (.slice .bool) y1), (7, .v 0 (.int .i64) (y1.length : Int)), (8, .v 0 (.int .i64) x4), (22, .v 0 .bool ((rd z_api_Ticket p0.2.1 x4).1 && (!x5)))]) (obs := [0 ≤ x4 ∧ x4 < (p0.2.1.length : Int)]) (by kernel_rfl) (o1) ?_
      refine W_join h (Ej := fun (x : List Int) => [(1, .box 0 T_api_State p0), (2, .v 9 (.slice (.int .i64)) x), (6, .v 0 (.slice .bool) y1), (7, .v 0 (.int .i64) (y1.length : Int)), (8, .v 0 (.int .i64) x4)]) (p := fun x => live_Dead_j2 x4 x) ?_ ?_
      · rintro x6 h
        replace h : Leads _ (live_Dead_j2 x4 x6) := h
        unfold live_Dead_j2 at h
        show W _ _ _ _ _ _ [(1, .box 0 T_api_State p0), (2, .v 9 (.slice (.int .i64)) x6), (6, .v 0 (.slice .bool) y1), (7, .v 0 (.int .i64) (y1.length : Int)), (8, .v 0 (.int .i64) x4)]
        refine W_blk ?_
        refine W_region mixed tys_ok (sup := []) (l := [(1, 0), (2, 9), (6, 0), (7, 0), (8, 0)]) (E' := [(1, .box 0 T_api_State p0), (2, .v 9 (.slice (.int .i64)) x6), (6, .v 0 (.slice .bool) y1), (7, .v 0 (.int .i64) (y1.length : Int)), (8, .v 0 (.int .i64) (IntKind.i64.wrap (x4 + (1 : Int))))]) (obs := []) (by kernel_rfl) (trivial) ?_
        refine W_gen (x := IntKind.i64.wrap (x4 + (1 : Int))) (En := fun x7 => [(1, .box 0 T_api_State p0), (2, .v 9 (.slice (.int .i64)) x6), (6, .v 0 (.slice .bool) y1), (7, .v 0 (.int .i64) (y1.length : Int)), (8, .v 0 (.int .i64) x7)]) h (fun x7 h => ?_)
        refine W_keep (l := [(1, 0), (2, 9), (6, 0), (7, 0), (8, 0)]) (E' := [(1, .box 0 T_api_State p0), (2, .v 9 (.slice (.int .i64)) x6), (6, .v 0 (.slice .bool) y1), (7, .v 0 (.int .i64) (y1.length : Int)), (8, .v 0 (.int .i64) x7)]) (by kernel_rfl) ?_
        exact W_abs h
      · intro j2
        refine W_cond (β := (rd z_api_Ticket p0.2.1 x4).1 && (!x5)) (by kernel_rfl) (fun hb => ?_) (fun hb => ?_)
        · rw [hb] at h; rw [cond_true] at h
          obtain ⟨o1, h⟩ := h.ass
          refine W_region mixed tys_ok (sup := []) (l := [(1, 0), (2, 9), (6, 0), (7, 0), (8, 0)]) (E' := [(1, .box 0 T_api_State p0), (2, .v 9 (.slice (.int .i64)) (x3 ++ [x4])), (6, .v 0 (.slice .bool) y1), (7, .v 0 (.int .i64) (y1.length : Int)), (8, .v 0 (.int .i64) x4)]) (obs := [((x3.length + [x4].length : Nat) : Int) ≤ limA]) (by kernel_rfl) (o1) ?_
          refine W_gen (x := x3 ++ [x4]) (En := fun x8 => [(1, .box 0 T_api_State p0), (2, .v 9 (.slice (.int .i64)) x8), (6, .v 0 (.slice .bool) y1), (7, .v 0 (.int .i64) (y1.length : Int)), (8, .v 0 (.int .i64) x4)]) h (fun x8 h => ?_)
          refine W_keep (l := [(1, 0), (2, 9), (6, 0), (7, 0), (8, 0)]) (E' := [(1, .box 0 T_api_State p0), (2, .v 9 (.slice (.int .i64)) x8), (6, .v 0 (.slice .bool) y1), (7, .v 0 (.int .i64) (y1.length : Int)), (8, .v 0 (.int .i64) x4)]) (by kernel_rfl) ?_
          exact j2 x8 h
        · rw [hb] at h; rw [cond_false] at h
          refine W_skip ?_
          refine W_keep (l := [(1, 0), (2, 9), (6, 0), (7, 0), (8, 0)]) (E' := [(1, .box 0 T_api_State p0), (2, .v 9 (.slice (.int .i64)) x3), (6, .v 0 (.slice .bool) y1), (7, .v 0 (.int .i64) (y1.length : Int)), (8, .v 0 (.int .i64) x4)]) (by kernel_rfl) ?_
          exact j2 x3 h
    · rw [hb] at h; rw [cond_false] at h
      refine W_exit rfl ?_
      refine W_keep (l := [(2, 9)]) (E' := [(2, .v 9 (.slice (.int .i64)) x3)]) (by kernel_rfl) ?_
      exact j1 x3 h.back

noncomputable def l17_alive : Option Bool :=
  bnd (((2 : Int), (-1 : Int), (-1 : Int), (1 : Int), (1 : Int))) fun x1 =>
  bnd (([true, true], [(true, (0 : Int), (3 : Int), (1 : Int), (0 : Int), true), (true, (0 : Int), (4 : Int), (2 : Int), (1 : Int), true)], [x1], ([] : List D_api_Lock), ([] : List Int), (5 : Int))) fun x2 =>
  (live_Tickets x2).bind fun y3 =>
  ass (((y3.length : Int) == (2 : Int)) = true → 0 ≤ (0 : Int) ∧ (0 : Int) < (y3.length : Int)) <|
  ass ((((y3.length : Int) == (2 : Int)) && (rd false y3 (0 : Int))) = true → 0 ≤ (1 : Int) ∧ (1 : Int) < (y3.length : Int)) <|
  (bif (((y3.length : Int) == (2 : Int)) && (rd false y3 (0 : Int))) && (!(rd false y3 (1 : Int))) then live_Amounts x2 else some ([] : List Int)).bind fun y4 =>
  (bif (((y3.length : Int) == (2 : Int)) && (rd false y3 (0 : Int))) && (!(rd false y3 (1 : Int))) then r11_Ints y4 [(3 : Int), (0 : Int)] else some false).bind fun y5 =>
  (bif ((((y3.length : Int) == (2 : Int)) && (rd false y3 (0 : Int))) && (!(rd false y3 (1 : Int)))) && y5 then live_Awake x2 (0 : Int) else some false).bind fun y6 =>
  (bif (((((y3.length : Int) == (2 : Int)) && (rd false y3 (0 : Int))) && (!(rd false y3 (1 : Int)))) && y5) && y6 then live_Awake x2 (1 : Int) else some false).bind fun y7 =>
  (bif ((((((y3.length : Int) == (2 : Int)) && (rd false y3 (0 : Int))) && (!(rd false y3 (1 : Int)))) && y5) && y6) && (!y7) then live_Dead x2 else some ([] : List Int)).bind fun y8 =>
  (bif ((((((y3.length : Int) == (2 : Int)) && (rd false y3 (0 : Int))) && (!(rd false y3 (1 : Int)))) && y5) && y6) && (!y7) then r11_Ints y8 [(1 : Int)] else some false).bind fun y9 =>
  bnd ((((((((y3.length : Int) == (2 : Int)) && (rd false y3 (0 : Int))) && (!(rd false y3 (1 : Int)))) && y5) && y6) && (!y7)) && y9) fun x10 =>
  some x10
theorem l17_alive.ok {r : Bool} (h : l17_alive = some r) : ACall prog 68 [] [⟨0, .bool, r⟩] := by
  replace h := Leads.of h
  unfold l17_alive at h
  refine acall_of func68 (by kernel_rfl) rfl (by kernel_rfl) fun w0 F0 hw0 => ?_
  refine W_seq ?_
  refine W_region mixed tys_ok (sup := []) (l := []) (E' := []) (obs := []) (by kernel_rfl) (trivial) ?_
  refine W_seq ?_
  refine W_region mixed tys_ok (sup := []) (l := [(1, 9)]) (E' := [(1, .box 9 T_api_Thread ((2 : Int), (-1 : Int), (-1 : Int), (1 : Int), (1 : Int)))]) (obs := []) (by kernel_rfl) (trivial) ?_
  refine W_gen (x := ((2 : Int), (-1 : Int), (-1 : Int), (1 : Int), (1 : Int))) (En := fun x1 => [(1, .box 9 T_api_Thread x1)]) h (fun x1 h => ?_)
  refine W_seq ?_
  refine W_region mixed tys_ok (sup := [.frz, .frz, .frz]) (l := [(2, 0)]) (E' := [(2, .box 0 T_api_State ([true, true], [(true, (0 : Int), (3 : Int), (1 : Int), (0 : Int), true), (true, (0 : Int), (4 : Int), (2 : Int), (1 : Int), true)], [x1], ([] : List D_api_Lock), ([] : List Int), (5 : Int)))]) (obs := []) (by kernel_rfl) (trivial) ?_
  refine W_gen (x := ([true, true], [(true, (0 : Int), (3 : Int), (1 : Int), (0 : Int), true), (true, (0 : Int), (4 : Int), (2 : Int), (1 : Int), true)], [x1], ([] : List D_api_Lock), ([] : List Int), (5 : Int))) (En := fun x2 => [(2, .box 0 T_api_State x2)]) h (fun x2 h => ?_)
  refine W_seq ?_
  obtain ⟨y3, ey3, h⟩ := h.bind
  refine W_region mixed tys_ok (sup := [.res [(0, ⟨0, .slice .bool, y3⟩)]]) (l := [(2, 0), (3, 0)]) (E' := [(2, .box 0 T_api_State x2), (3, .v 0 (.slice .bool) y3)]) (obs := [ACall prog 69 [⟨T_api_State, x2⟩] [⟨0, .slice .bool, y3⟩]]) (by kernel_rfl) (live_Tickets.ok ey3) ?_
  refine W_seq ?_
  obtain ⟨o1, h⟩ := h.ass
  obtain ⟨o2, h⟩ := h.ass
  obtain ⟨y4, ey4, h⟩ := h.bind
  obtain ⟨y5, ey5, h⟩ := h.bind
  obtain ⟨y6, ey6, h⟩ := h.bind
  obtain ⟨y7, ey7, h⟩ := h.bind
  obtain ⟨y8, ey8, h⟩ := h.bind
  obtain ⟨y9, ey9, h⟩ := h.bind
  refine W_region mixed tys_ok (sup := [.res [(0, ⟨0, .slice (.int .i64), y4⟩)], .res [(0, ⟨0, .bool, y5⟩)], .res [(0, ⟨0, .bool, y6⟩)], .res [(0, ⟨0, .bool, y7⟩)], .res [(0, ⟨9, .slice (.int .i64), y8⟩)], .res [(0, ⟨0, .bool, y9⟩)]]) (l := [(0, 0)]) (E' := [(0, .v 0 .bool ((((((((y3.length : Int) == (2 : Int)) && (rd false y3 (0 : Int))) && (!(rd false y3 (1 : Int)))) && y5) && y6) && (!y7)) && y9))]) (obs := [((y3.length : Int) == (2 : Int)) = true → 0 ≤ (0 : Int) ∧ (0 : Int) < (y3.length : Int), (((y3.length : Int) == (2 : Int)) && (rd false y3 (0 : Int))) = true → 0 ≤ (1 : Int) ∧ (1 : Int) < (y3.length : Int), ((((y3.length : Int) == (2 : Int)) && (rd false y3 (0 : Int))) && (!(rd false y3 (1 : Int)))) = true → ACall prog 70 [⟨T_api_State, x2⟩] [⟨0, .slice (.int .i64), y4⟩], ((((y3.length : Int) == (2 : Int)) && (rd false y3 (0 : Int))) && (!(rd false y3 (1 : Int)))) = true → ACall prog 22 [⟨.slice (.int .i64), y4⟩, ⟨.slice (.int .i64), [(3 : Int), (0 : Int)]⟩] [⟨0, .bool, y5⟩], (((((y3.length : Int) == (2 : Int)) && (rd false y3 (0 : Int))) && (!(rd false y3 (1 : Int)))) && y5) = true → ACall prog 74 [⟨T_api_State, x2⟩, ⟨.int .i64, (0 : Int)⟩] [⟨0, .bool, y6⟩], ((((((y3.length : Int) == (2 : Int)) && (rd false y3 (0 : Int))) && (!(rd false y3 (1 : Int)))) && y5) && y6) = true → ACall prog 74 [⟨T_api_State, x2⟩, ⟨.int .i64, (1 : Int)⟩] [⟨0, .bool, y7⟩], (((((((y3.length : Int) == (2 : Int)) && (rd false y3 (0 : Int))) && (!(rd false y3 (1 : Int)))) && y5) && y6) && (!y7)) = true → ACall prog 75 [⟨T_api_State, x2⟩] [⟨9, .slice (.int .i64), y8⟩], (((((((y3.length : Int) == (2 : Int)) && (rd false y3 (0 : Int))) && (!(rd false y3 (1 : Int)))) && y5) && y6) && (!y7)) = true → ACall prog 22 [⟨.slice (.int .i64), y8⟩, ⟨.slice (.int .i64), [(1 : Int)]⟩] [⟨0, .bool, y9⟩]]) (by kernel_rfl) (⟨o1, o2, fun hc => live_Amounts.ok (bif_some ey4 hc), fun hc => r11_Ints.ok (bif_some ey5 hc), fun hc => live_Awake.ok (bif_some ey6 hc), fun hc => live_Awake.ok (bif_some ey7 hc), fun hc => live_Dead.ok (bif_some ey8 hc), fun hc => r11_Ints.ok (bif_some ey9 hc)⟩) ?_
  refine W_gen (x := (((((((y3.length : Int) == (2 : Int)) && (rd false y3 (0 : Int))) && (!(rd false y3 (1 : Int)))) && y5) && y6) && (!y7)) && y9) (En := fun x10 => [(0, .v 0 .bool x10)]) h (fun x10 h => ?_)
  refine W_keep (l := [(0, 0)]) (E' := [(0, .v 0 .bool x10)]) (by kernel_rfl) ?_
  replace h : x10 = r := h
  subst h
  exact W_ret tys_ok hw0 (by kernel_rfl) (by kernel_rfl)

noncomputable def r14_Copy (p0 : D_api_State) : Option D_api_State :=
  bnd ((([] : List Bool), ([] : List D_api_Ticket), ([] : List D_api_Thread), ([] : List D_api_Lock), ([] : List Int), (0 : Int))) fun x1 =>
  ass (((([] : List Bool).length + p0.1.length : Nat) : Int) ≤ limA) <|
  bnd ((([] : List Bool) ++ p0.1, p0.2)) fun x2 =>
  ass (((([] : List D_api_Ticket).length + x2.2.1.length : Nat) : Int) ≤ limA) <|
  bnd ((x2.1, ([] : List D_api_Ticket) ++ x2.2.1, x2.2.2)) fun x3 =>
  ass (((([] : List D_api_Thread).length + x3.2.2.1.length : Nat) : Int) ≤ limA) <|
  bnd ((x3.1, x3.2.1, ([] : List D_api_Thread) ++ x3.2.2.1, x3.2.2.2)) fun x4 =>
  ass (((([] : List D_api_Lock).length + x4.2.2.2.1.length : Nat) : Int) ≤ limA) <|
  bnd ((x4.1, x4.2.1, x4.2.2.1, ([] : List D_api_Lock) ++ x4.2.2.2.1, x4.2.2.2.2)) fun x5 =>
  ass (((([] : List Int).length + x5.2.2.2.2.1.length : Nat) : Int) ≤ limA) <|
  bnd ((x5.1, x5.2.1, x5.2.2.1, x5.2.2.2.1, ([] : List Int) ++ x5.2.2.2.2.1, x5.2.2.2.2.2)) fun x6 =>
  some x6
theorem r14_Copy.ok {p0 : D_api_State} {r : D_api_State} (h : r14_Copy p0 = some r) : ACall prog 77 [⟨T_api_State, p0⟩] [⟨(.pr 9 (.pr 9 (.pr 9 (.pr 9 (.pr 9 0))))), T_api_State, r⟩] := by
  replace h := Leads.of h
  unfold r14_Copy at h
  refine acall_of func77 (by kernel_rfl) rfl (by kernel_rfl) fun w0 F0 hw0 => ?_
  refine W_seq ?_
  refine W_region mixed tys_ok (sup := []) (l := [(1, 0), (2, 9)]) (E' := [(1, .box 0 T_api_State p0), (2, .box 9 T_api_State (([] : List Bool), ([] : List D_api_Ticket), ([] : List D_api_Thread), ([] : List D_api_Lock), ([] : List Int), (0 : Int)))]) (obs := []) (by kernel_rfl) (trivial) ?_
  refine W_gen (x := (([] : List Bool), ([] : List D_api_Ticket), ([] : List D_api_Thread), ([] : List D_api_Lock), ([] : List Int), (0 : Int))) (En := fun x1 => [(1, .box 0 T_api_State p0), (2, .box 9 T_api_State x1)]) h (fun x1 h => ?_)
  refine W_seq ?_
  obtain ⟨o1, h⟩ := h.ass
  refine W_region mixed tys_ok (sup := []) (l := [(1, (.pr 9 0)), (2, 9)]) (E' := [(1, .box (.pr 9 0) T_api_State (([] : List Bool) ++ p0.1, p0.2)), (2, .box 9 T_api_State x1)]) (obs := [((([] : List Bool).length + p0.1.length : Nat) : Int) ≤ limA]) (by kernel_rfl) (o1) ?_
  refine W_gen (x := (([] : List Bool) ++ p0.1, p0.2)) (En := fun x2 => [(1, .box (.pr 9 0) T_api_State x2), (2, .box 9 T_api_State x1)]) h (fun x2 h => ?_)
  refine W_seq ?_
  obtain ⟨o1, h⟩ := h.ass
  refine W_region mixed tys_ok (sup := []) (l := [(1, (.pr 9 (.pr 9 0))), (2, 9)]) (E' := [(1, .box (.pr 9 (.pr 9 0)) T_api_State (x2.1, ([] : List D_api_Ticket) ++ x2.2.1, x2.2.2)), (2, .box 9 T_api_State x1)]) (obs := [((([] : List D_api_Ticket).length + x2.2.1.length : Nat) : Int) ≤ limA]) (by kernel_rfl) (o1) ?_
  refine W_gen (x := (x2.1, ([] : List D_api_Ticket) ++ x2.2.1, x2.2.2)) (En := fun x3 => [(1, .box (.pr 9 (.pr 9 0)) T_api_State x3), (2, .box 9 T_api_State x1)]) h (fun x3 h => ?_)
  refine W_seq ?_
  obtain ⟨o1, h⟩ := h.ass
  refine W_region mixed tys_ok (sup := []) (l := [(1, (.pr 9 (.pr 9 (.pr 9 0)))), (2, 9)]) (E' := [(1, .box (.pr 9 (.pr 9 (.pr 9 0))) T_api_State (x3.1, x3.2.1, ([] : List D_api_Thread) ++ x3.2.2.1, x3.2.2.2)), (2, .box 9 T_api_State x1)]) (obs := [((([] : List D_api_Thread).length + x3.2.2.1.length : Nat) : Int) ≤ limA]) (by kernel_rfl) (o1) ?_
  refine W_gen (x := (x3.1, x3.2.1, ([] : List D_api_Thread) ++ x3.2.2.1, x3.2.2.2)) (En := fun x4 => [(1, .box (.pr 9 (.pr 9 (.pr 9 0))) T_api_State x4), (2, .box 9 T_api_State x1)]) h (fun x4 h => ?_)
  refine W_seq ?_
  obtain ⟨o1, h⟩ := h.ass
  refine W_region mixed tys_ok (sup := []) (l := [(1, (.pr 9 (.pr 9 (.pr 9 (.pr 9 0))))), (2, 9)]) (E' := [(1, .box (.pr 9 (.pr 9 (.pr 9 (.pr 9 0)))) T_api_State (x4.1, x4.2.1, x4.2.2.1, ([] : List D_api_Lock) ++ x4.2.2.2.1, x4.2.2.2.2)), (2, .box 9 T_api_State x1)]) (obs := [((([] : List D_api_Lock).length + x4.2.2.2.1.length : Nat) : Int) ≤ limA]) (by kernel_rfl) (o1) ?_
  refine W_gen (x := (x4.1, x4.2.1, x4.2.2.1, ([] : List D_api_Lock) ++ x4.2.2.2.1, x4.2.2.2.2)) (En := fun x5 => [(1, .box (.pr 9 (.pr 9 (.pr 9 (.pr 9 0)))) T_api_State x5), (2, .box 9 T_api_State x1)]) h (fun x5 h => ?_)
  refine W_seq ?_
  obtain ⟨o1, h⟩ := h.ass
  refine W_region mixed tys_ok (sup := []) (l := [(1, (.pr 9 (.pr 9 (.pr 9 (.pr 9 (.pr 9 0)))))), (2, 9)]) (E' := [(1, .box (.pr 9 (.pr 9 (.pr 9 (.pr 9 (.pr 9 0))))) T_api_State (x5.1, x5.2.1, x5.2.2.1, x5.2.2.2.1, ([] : List Int) ++ x5.2.2.2.2.1, x5.2.2.2.2.2)), (2, .box 9 T_api_State x1)]) (obs := [((([] : List Int).length + x5.2.2.2.2.1.length : Nat) : Int) ≤ limA]) (by kernel_rfl) (o1) ?_
  refine W_gen (x := (x5.1, x5.2.1, x5.2.2.1, x5.2.2.2.1, ([] : List Int) ++ x5.2.2.2.2.1, x5.2.2.2.2.2)) (En := fun x6 => [(1, .box (.pr 9 (.pr 9 (.pr 9 (.pr 9 (.pr 9 0))))) T_api_State x6), (2, .box 9 T_api_State x1)]) h (fun x6 h => ?_)
  refine W_seq ?_
  refine W_region mixed tys_ok (sup := []) (l := [(2, (.pr 9 (.pr 9 (.pr 9 (.pr 9 (.pr 9 0))))))]) (E' := [(2, .box (.pr 9 (.pr 9 (.pr 9 (.pr 9 (.pr 9 0))))) T_api_State x6)]) (obs := []) (by kernel_rfl) (trivial) ?_
  refine W_keep (l := [(2, (.pr 9 (.pr 9 (.pr 9 (.pr 9 (.pr 9 0))))))]) (E' := [(2, .box (.pr 9 (.pr 9 (.pr 9 (.pr 9 (.pr 9 0))))) T_api_State x6)]) (by kernel_rfl) ?_
  replace h : x6 = r := h
  subst h
  exact W_ret tys_ok hw0 (by kernel_rfl) (by kernel_rfl)

noncomputable def l17_LiveOff_j2 : Option (Bool) :=
  (l17_alive).bind fun y13 =>
  some y13
noncomputable def l17_LiveOff_b1 (y11 : List Int) (y12 : List Int) (x14 : Int) : Option (Int ⊕ Bool) :=
  bif decide (x14 < (y11.length : Int)) then
    ass ((!(decide (x14 ≥ (y12.length : Int)))) = true → 0 ≤ x14 ∧ x14 < (y12.length : Int)) <|
    ass ((!(decide (x14 ≥ (y12.length : Int)))) = true → 0 ≤ x14 ∧ x14 < (y11.length : Int)) <|
    bif (decide (x14 ≥ (y12.length : Int))) || (decide ((rd (0 : Int) y12 x14) > (rd (0 : Int) y11 x14))) then
      some (.inr false)
    else
      bnd (IntKind.i64.wrap (x14 + (1 : Int))) fun x15 =>
      some (.inl x15)
  else
    (l17_LiveOff_j2).map .inr
noncomputable def l17_LiveOff_j1 (x7 : D_api_State) (x8 : D_api_State) : Option (Bool) :=
  (live_Amounts x7).bind fun y11 =>
  (live_Amounts x8).bind fun y12 =>
  loopM (fun x : Int => l17_LiveOff_b1 y11 y12 x) (0 : Int)
noncomputable def l17_LiveOff_b2 (x7 : D_api_State) (x8 : D_api_State) (y9 : List Bool) (y10 : List Bool) (x16 : Int) : Option (Int ⊕ Bool) :=
  bif decide (x16 < (y9.length : Int)) then
    ass (0 ≤ x16 ∧ x16 < (y10.length : Int)) <|
    ass ((rd false y10 x16) = true → 0 ≤ x16 ∧ x16 < (y9.length : Int)) <|
    bif (rd false y10 x16) && (!(rd false y9 x16)) then
      some (.inr false)
    else
      bnd (IntKind.i64.wrap (x16 + (1 : Int))) fun x17 =>
      some (.inl x17)
  else
    (l17_LiveOff_j1 x7 x8).map .inr
noncomputable def l17_LiveOff (p0 : D_api_State) (p1 : Int) : Option Bool :=
  (r14_Small p0).bind fun y1 =>
  (bif !(!y1) then r14_Fine p0 else some false).bind fun y2 =>
  (bif !((!y1) || (!y2)) then r14_Ticket p0 p1 else some false).bind fun y3 =>
  bif ((!y1) || (!y2)) || (!y3) then
    (l17_alive).bind fun y4 =>
    some y4
  else
    (r14_Copy p0).bind fun y5 =>
    (r14_Copy p0).bind fun y6 =>
    ass (0 ≤ p1 ∧ p1 < (y5.2.1.length : Int)) <|
    bnd ((y5.1, wr y5.2.1 p1 ((rd z_api_Ticket y5.2.1 p1).1, (rd z_api_Ticket y5.2.1 p1).2.1, (rd z_api_Ticket y5.2.1 p1).2.2.1, (rd z_api_Ticket y5.2.1 p1).2.2.2.1, (rd z_api_Ticket y5.2.1 p1).2.2.2.2.1, true), y5.2.2)) fun x7 =>
    ass (0 ≤ p1 ∧ p1 < (y6.2.1.length : Int)) <|
    bnd ((y6.1, wr y6.2.1 p1 ((rd z_api_Ticket y6.2.1 p1).1, (rd z_api_Ticket y6.2.1 p1).2.1, (rd z_api_Ticket y6.2.1 p1).2.2.1, (rd z_api_Ticket y6.2.1 p1).2.2.2.1, (rd z_api_Ticket y6.2.1 p1).2.2.2.2.1, false), y6.2.2)) fun x8 =>
    (live_Tickets x7).bind fun y9 =>
    (live_Tickets x8).bind fun y10 =>
    ass ((!(((y9.length : Int) != (p0.2.1.length : Int)) || ((y10.length : Int) != (y9.length : Int)))) = true → 0 ≤ p1 ∧ p1 < (y10.length : Int)) <|
    bif (((y9.length : Int) != (p0.2.1.length : Int)) || ((y10.length : Int) != (y9.length : Int))) || (rd false y10 p1) then
      some false
    else
      loopM (fun x : Int => l17_LiveOff_b2 x7 x8 y9 y10 x) (0 : Int)
theorem l17_LiveOff.ok {p0 : D_api_State} {p1 : Int} {r : Bool} (h : l17_LiveOff p0 p1 = some r) : ACall prog 11 [⟨T_api_State, p0⟩, ⟨.int .i64, p1⟩] [⟨0, .bool, r⟩] := by
  replace h := Leads.of h
  unfold l17_LiveOff at h
  refine acall_of func11 (by kernel_rfl) rfl (by kernel_rfl) fun w0 F0 hw0 => ?_
  refine W_seq ?_
  refine W_region mixed tys_ok (sup := []) (l := [(1, 0), (2, 0)]) (E' := [(1, .v 0 (.int .i64) p1), (2, .box 0 T_api_State p0)]) (obs := []) (by kernel_rfl) (trivial) ?_
  refine W_seq ?_
  refine W_seq ?_
  obtain ⟨y1, ey1, h⟩ := h.bind
  obtain ⟨y2, ey2, h⟩ := h.bind
  obtain ⟨y3, ey3, h⟩ := h.bind
  refine W_region mixed tys_ok (sup := [.res [(0, ⟨0, .bool, y1⟩)], .res [(0, ⟨0, .bool, y2⟩)], .res [(0, ⟨0, .bool, y3⟩)]]) (l := [(1, 0), (2, 0), (26, 0)]) (E' := [(1, .v 0 (.int .i64) p1), (2, .box 0 T_api_State p0), (26, .v 0 .bool (((!y1) || (!y2)) || (!y3)))]) (obs := [ACall prog 12 [⟨T_api_State, p0⟩] [⟨0, .bool, y1⟩], (!(!y1)) = true → ACall prog 13 [⟨T_api_State, p0⟩] [⟨0, .bool, y2⟩], (!((!y1) || (!y2))) = true → ACall prog 76 [⟨T_api_State, p0⟩, ⟨.int .i64, p1⟩] [⟨0, .bool, y3⟩]]) (by kernel_rfl) (⟨r14_Small.ok ey1, fun hc => r14_Fine.ok (bif_some ey2 hc), fun hc => r14_Ticket.ok (bif_some ey3 hc)⟩) ?_
  refine W_cond (β := ((!y1) || (!y2)) || (!y3)) (by kernel_rfl) (fun hb => ?_) (fun hb => ?_)
  · rw [hb] at h; rw [cond_true] at h
    refine W_seq ?_
    obtain ⟨y4, ey4, h⟩ := h.bind
    refine W_region mixed tys_ok (sup := [.res [(0, ⟨0, .bool, y4⟩)]]) (l := [(4, 0)]) (E' := [(4, .v 0 .bool y4)]) (obs := [ACall prog 68 [] [⟨0, .bool, y4⟩]]) (by kernel_rfl) (l17_alive.ok ey4) ?_
    refine W_keep (l := [(4, 0)]) (E' := [(4, .v 0 .bool y4)]) (by kernel_rfl) ?_
    replace h : y4 = r := h
    subst h
    exact W_ret tys_ok hw0 (by kernel_rfl) (by kernel_rfl)
  · rw [hb] at h; rw [cond_false] at h
    refine W_skip ?_
    refine W_seq ?_
    obtain ⟨y5, ey5, h⟩ := h.bind
    obtain ⟨y6, ey6, h⟩ := h.bind
    refine W_region mixed tys_ok (sup := [.res [((.pr 9 (.pr 9 (.pr 9 (.pr 9 (.pr 9 0))))), ⟨(.pr 9 (.pr 9 (.pr 9 (.pr 9 (.pr 9 0))))), T_api_State, y5⟩)], .res [((.pr 9 (.pr 9 (.pr 9 (.pr 9 (.pr 9 0))))), ⟨(.pr 9 (.pr 9 (.pr 9 (.pr 9 (.pr 9 0))))), T_api_State, y6⟩)]]) (l := [(1, 0), (2, 0), (5, (.pr 9 (.pr 9 (.pr 9 (.pr 9 (.pr 9 0)))))), (6, (.pr 9 (.pr 9 (.pr 9 (.pr 9 (.pr 9 0))))))]) (E' := [(1, .v 0 (.int .i64) p1), (2, .box 0 T_api_State p0), (5, .box (.pr 9 (.pr 9 (.pr 9 (.pr 9 (.pr 9 0))))) T_api_State y5), (6, .box (.pr 9 (.pr 9 (.pr 9 (.pr 9 (.pr 9 0))))) T_api_State y6)]) (obs := [ACall prog 77 [⟨T_api_State, p0⟩] [⟨(.pr 9 (.pr 9 (.pr 9 (.pr 9 (.pr 9 0))))), T_api_State, y5⟩], ACall prog 77 [⟨T_api_State, p0⟩] [⟨(.pr 9 (.pr 9 (.pr 9 (.pr 9 (.pr 9 0))))), T_api_State, y6⟩]]) (by kernel_rfl) (⟨r14_Copy.ok ey5, r14_Copy.ok ey6⟩) ?_
    refine W_seq ?_
    obtain ⟨o1, h⟩ := h.ass
    refine W_region mixed tys_ok (sup := []) (l := [(1, 0), (2, 0), (5, (.pr 9 (.pr 9 (.pr 9 (.pr 9 (.pr 9 0)))))), (6, (.pr 9 (.pr 9 (.pr 9 (.pr 9 (.pr 9 0))))))]) (E' := [(1, .v 0 (.int .i64) p1), (2, .box 0 T_api_State p0), (5, .box (.pr 9 (.pr 9 (.pr 9 (.pr 9 (.pr 9 0))))) T_api_State (y5.1, wr y5.2.1 p1 ((rd z_api_Ticket y5.2.1 p1).1, (rd z_api_Ticket y5.2.1 p1).2.1, (rd z_api_Ticket y5.2.1 p1).2.2.1, (rd z_api_Ticket y5.2.1 p1).2.2.2.1, (rd z_api_Ticket y5.2.1 p1).2.2.2.2.1, true), y5.2.2)), (6, .box (.pr 9 (.pr 9 (.pr 9 (.pr 9 (.pr 9 0))))) T_api_State y6)]) (obs := [0 ≤ p1 ∧ p1 < (y5.2.1.length : Int)]) (by kernel_rfl) (o1) ?_
    refine W_gen (x := (y5.1, wr y5.2.1 p1 ((rd z_api_Ticket y5.2.1 p1).1, (rd z_api_Ticket y5.2.1 p1).2.1, (rd z_api_Ticket y5.2.1 p1).2.2.1, (rd z_api_Ticket y5.2.1 p1).2.2.2.1, (rd z_api_Ticket y5.2.1 p1).2.2.2.2.1, true), y5.2.2)) (En := fun x7 => [(1, .v 0 (.int .i64) p1), (2, .box 0 T_api_State p0), (5, .box (.pr 9 (.pr 9 (.pr 9 (.pr 9 (.pr 9 0))))) T_api_State x7), (6, .box (.pr 9 (.pr 9 (.pr 9 (.pr 9 (.pr 9 0))))) T_api_State y6)]) h (fun x7 h => ?_)
    refine W_seq ?_
    obtain ⟨o1, h⟩ := h.ass
    refine W_region mixed tys_ok (sup := []) (l := [(1, 0), (2, 0), (5, (.pr 9 (.pr 9 (.pr 9 (.pr 9 (.pr 9 0)))))), (6, (.pr 9 (.pr 9 (.pr 9 (.pr 9 (.pr 9 0))))))]) (E' := [(1, .v 0 (.int .i64) p1), (2, .box 0 T_api_State p0), (5, .box (.pr 9 (.pr 9 (.pr 9 (.pr 9 (.pr 9 0))))) T_api_State x7), (6, .box (.pr 9 (.pr 9 (.pr 9 (.pr 9 (.pr 9 0))))) T_api_State (y6.1, wr y6.2.1 p1 ((rd z_api_Ticket y6.2.1 p1).1, (rd z_api_Ticket y6.2.1 p1).2.1, (rd z_api_Ticket y6.2.1 p1).2.2.1, (rd z_api_Ticket y6.2.1 p1).2.2.2.1, (rd z_api_Ticket y6.2.1 p1).2.2.2.2.1, false), y6.2.2))]) (obs := [0 ≤ p1 ∧ p1 < (y6.2.1.length : Int)]) (by kernel_rfl) (o1) ?_
    refine W_gen (x := (y6.1, wr y6.2.1 p1 ((rd z_api_Ticket y6.2.1 p1).1, (rd z_api_Ticket y6.2.1 p1).2.1, (rd z_api_Ticket y6.2.1 p1).2.2.1, (rd z_api_Ticket y6.2.1 p1).2.2.2.1, (rd z_api_Ticket y6.2.1 p1).2.2.2.2.1, false), y6.2.2)) (En := fun x8 => [(1, .v 0 (.int .i64) p1), (2, .box 0 T_api_State p0), (5, .box (.pr 9 (.pr 9 (.pr 9 (.pr 9 (.pr 9 0))))) T_api_State x7), (6, .box (.pr 9 (.pr 9 (.pr 9 (.pr 9 (.pr 9 0))))) T_api_State x8)]) h (fun x8 h => ?_)
    refine W_seq ?_
    refine W_keep (l := [(1, 0), (2, 0), (5, 0), (6, 0)]) (E' := [(1, .v 0 (.int .i64) p1), (2, .box 0 T_api_State p0), (5, .box 0 T_api_State x7), (6, .box 0 T_api_State x8)]) (by kernel_rfl) ?_
    obtain ⟨y9, ey9, h⟩ := h.bind
    obtain ⟨y10, ey10, h⟩ := h.bind
    refine W_region mixed tys_ok (sup := [.res [(0, ⟨0, .slice .bool, y9⟩)], .res [(0, ⟨0, .slice .bool, y10⟩)]]) (l := [(1, 0), (2, 0), (5, 0), (6, 0), (7, 0), (8, 0)]) (E' := [(1, .v 0 (.int .i64) p1), (2, .box 0 T_api_State p0), (5, .box 0 T_api_State x7), (6, .box 0 T_api_State x8), (7, .v 0 (.slice .bool) y9), (8, .v 0 (.slice .bool) y10)]) (obs := [ACall prog 69 [⟨T_api_State, x7⟩] [⟨0, .slice .bool, y9⟩], ACall prog 69 [⟨T_api_State, x8⟩] [⟨0, .slice .bool, y10⟩]]) (by kernel_rfl) (⟨live_Tickets.ok ey9, live_Tickets.ok ey10⟩) ?_
    refine W_seq ?_
    refine W_seq ?_
    obtain ⟨o1, h⟩ := h.ass
    refine W_region mixed tys_ok (sup := []) (l := [(5, 0), (6, 0), (7, 0), (8, 0), (64, 0)]) (E' := [(5, .box 0 T_api_State x7), (6, .box 0 T_api_State x8), (7, .v 0 (.slice .bool) y9), (8, .v 0 (.slice .bool) y10), (64, .v 0 .bool ((((y9.length : Int) != (p0.2.1.length : Int)) || ((y10.length : Int) != (y9.length : Int))) || (rd false y10 p1)))]) (obs := [(!(((y9.length : Int) != (p0.2.1.length : Int)) || ((y10.length : Int) != (y9.length : Int)))) = true → 0 ≤ p1 ∧ p1 < (y10.length : Int)]) (by kernel_rfl) (o1) ?_
    refine W_cond (β := (((y9.length : Int) != (p0.2.1.length : Int)) || ((y10.length : Int) != (y9.length : Int))) || (rd false y10 p1)) (by kernel_rfl) (fun hb => ?_) (fun hb => ?_)
    · rw [hb] at h; rw [cond_true] at h
      refine W_seq ?_
      refine W_region mixed tys_ok (sup := []) (l := [(4, 0)]) (E' := [(4, .v 0 .bool false)]) (obs := []) (by kernel_rfl) (trivial) ?_
      refine W_keep (l := [(4, 0)]) (E' := [(4, .v 0 .bool false)]) (by kernel_rfl) ?_
      replace h : false = r := h
      subst h
      exact W_ret tys_ok hw0 (by kernel_rfl) (by kernel_rfl)
    · rw [hb] at h; rw [cond_false] at h
      refine W_skip ?_
      refine W_seq ?_
      refine W_seq ?_
      refine W_region mixed tys_ok (sup := []) (l := [(5, 0), (6, 0), (7, 0), (8, 0), (9, 0)]) (E' := [(5, .box 0 T_api_State x7), (6, .box 0 T_api_State x8), (7, .v 0 (.slice .bool) y9), (8, .v 0 (.slice .bool) y10), (9, .v 0 (.int .i64) (0 : Int))]) (obs := []) (by kernel_rfl) (trivial) ?_
      refine W_join h (Ej := fun (x : Unit) => [(5, .box 0 T_api_State x7), (6, .box 0 T_api_State x8)]) (p := fun x => l17_LiveOff_j1 x7 x8) ?_ ?_
      · rintro ⟨⟩ h
        replace h : Leads _ (l17_LiveOff_j1 x7 x8) := h
        unfold l17_LiveOff_j1 at h
        show W _ _ _ _ _ _ [(5, .box 0 T_api_State x7), (6, .box 0 T_api_State x8)]
        refine W_seq ?_
        obtain ⟨y11, ey11, h⟩ := h.bind
        obtain ⟨y12, ey12, h⟩ := h.bind
        refine W_region mixed tys_ok (sup := [.res [(0, ⟨0, .slice (.int .i64), y11⟩)], .res [(0, ⟨0, .slice (.int .i64), y12⟩)]]) (l := [(10, 0), (11, 0)]) (E' := [(10, .v 0 (.slice (.int .i64)) y11), (11, .v 0 (.slice (.int .i64)) y12)]) (obs := [ACall prog 70 [⟨T_api_State, x7⟩] [⟨0, .slice (.int .i64), y11⟩], ACall prog 70 [⟨T_api_State, x8⟩] [⟨0, .slice (.int .i64), y12⟩]]) (by kernel_rfl) (⟨live_Amounts.ok ey11, live_Amounts.ok ey12⟩) ?_
        refine W_seq ?_
        refine W_seq ?_
        refine W_region mixed tys_ok (sup := []) (l := [(10, 0), (11, 0), (12, 0)]) (E' := [(10, .v 0 (.slice (.int .i64)) y11), (11, .v 0 (.slice (.int .i64)) y12), (12, .v 0 (.int .i64) (0 : Int))]) (obs := []) (by kernel_rfl) (trivial) ?_
        refine W_join h (Ej := fun (x : Unit) => []) (p := fun x => l17_LiveOff_j2) ?_ ?_
        · rintro ⟨⟩ h
          replace h : Leads _ (l17_LiveOff_j2) := h
          unfold l17_LiveOff_j2 at h
          show W _ _ _ _ _ _ []
          refine W_seq ?_
          obtain ⟨y13, ey13, h⟩ := h.bind
          refine W_region mixed tys_ok (sup := [.res [(0, ⟨0, .bool, y13⟩)]]) (l := [(4, 0)]) (E' := [(4, .v 0 .bool y13)]) (obs := [ACall prog 68 [] [⟨0, .bool, y13⟩]]) (by kernel_rfl) (l17_alive.ok ey13) ?_
          refine W_keep (l := [(4, 0)]) (E' := [(4, .v 0 .bool y13)]) (by kernel_rfl) ?_
          replace h : y13 = r := h
          subst h
          exact W_ret tys_ok hw0 (by kernel_rfl) (by kernel_rfl)
        · intro j2
          refine W_block ?_
          refine W_keep (l := [(10, 0), (11, 0), (12, 0)]) (E' := [(10, .v 0 (.slice (.int .i64)) y11), (11, .v 0 (.slice (.int .i64)) y12), (12, .v 0 (.int .i64) (0 : Int))]) (by kernel_rfl) ?_
          refine W_loop' (En := fun (x : Int) => [(10, .v 0 (.slice (.int .i64)) y11), (11, .v 0 (.slice (.int .i64)) y12), (12, .v 0 (.int .i64) x)]) (x := (0 : Int)) h ?_
          rintro x14 K h
          replace h : Leads _ (l17_LiveOff_b1 y11 y12 x14) := h
          unfold l17_LiveOff_b1 at h
          show W _ _ _ _ _ _ [(10, .v 0 (.slice (.int .i64)) y11), (11, .v 0 (.slice (.int .i64)) y12), (12, .v 0 (.int .i64) x14)]
          refine W_seq ?_
          refine W_seq ?_
          refine W_region mixed tys_ok (sup := []) (l := [(10, 0), (11, 0), (12, 0), (89, 0)]) (E' := [(10, .v 0 (.slice (.int .i64)) y11), (11, .v 0 (.slice (.int .i64)) y12), (12, .v 0 (.int .i64) x14), (89, .v 0 .bool (decide (x14 < (y11.length : Int))))]) (obs := []) (by kernel_rfl) (trivial) ?_
          refine W_cond (β := decide (x14 < (y11.length : Int))) (by kernel_rfl) (fun hb => ?_) (fun hb => ?_)
          · rw [hb] at h; rw [cond_true] at h
            refine W_skip ?_
            refine W_seq ?_
            refine W_block ?_
            refine W_seq ?_
            obtain ⟨o1, h⟩ := h.ass
            obtain ⟨o2, h⟩ := h.ass
            refine W_region mixed tys_ok (sup := []) (l := [(10, 0), (11, 0), (12, 0), (106, 0)]) (E' := [(10, .v 0 (.slice (.int .i64)) y11), (11, .v 0 (.slice (.int .i64)) y12), (12, .v 0 (.int .i64) x14), (106, .v 0 .bool ((decide (x14 ≥ (y12.length : Int))) || (decide ((rd (0 : Int) y12 x14) > (rd (0 : Int) y11 x14)))))]) (obs := [(!(decide (x14 ≥ (y12.length : Int)))) = true → 0 ≤ x14 ∧ x14 < (y12.length : Int), (!(decide (x14 ≥ (y12.length : Int)))) = true → 0 ≤ x14 ∧ x14 < (y11.length : Int)]) (by kernel_rfl) (⟨o1, o2⟩) ?_
            refine W_cond (β := (decide (x14 ≥ (y12.length : Int))) || (decide ((rd (0 : Int) y12 x14) > (rd (0 : Int) y11 x14)))) (by kernel_rfl) (fun hb => ?_) (fun hb => ?_)
            · rw [hb] at h; rw [cond_true] at h
              refine W_seq ?_
              refine W_region mixed tys_ok (sup := []) (l := [(4, 0)]) (E' := [(4, .v 0 .bool false)]) (obs := []) (by kernel_rfl) (trivial) ?_
              refine W_keep (l := [(4, 0)]) (E' := [(4, .v 0 .bool false)]) (by kernel_rfl) ?_
              replace h : false = r := h
              subst h
              exact W_ret tys_ok hw0 (by kernel_rfl) (by kernel_rfl)
            · rw [hb] at h; rw [cond_false] at h
              refine W_skip ?_
              refine W_blk ?_
              refine W_region mixed tys_ok (sup := []) (l := [(10, 0), (11, 0), (12, 0)]) (E' := [(10, .v 0 (.slice (.int .i64)) y11), (11, .v 0 (.slice (.int .i64)) y12), (12, .v 0 (.int .i64) (IntKind.i64.wrap (x14 + (1 : Int))))]) (obs := []) (by kernel_rfl) (trivial) ?_
              refine W_gen (x := IntKind.i64.wrap (x14 + (1 : Int))) (En := fun x15 => [(10, .v 0 (.slice (.int .i64)) y11), (11, .v 0 (.slice (.int .i64)) y12), (12, .v 0 (.int .i64) x15)]) h (fun x15 h => ?_)
              refine W_keep (l := [(10, 0), (11, 0), (12, 0)]) (E' := [(10, .v 0 (.slice (.int .i64)) y11), (11, .v 0 (.slice (.int .i64)) y12), (12, .v 0 (.int .i64) x15)]) (by kernel_rfl) ?_
              exact W_abs h
          · rw [hb] at h; rw [cond_false] at h
            refine W_exit rfl ?_
            refine W_keep (l := []) (E' := []) (by kernel_rfl) ?_
            exact j2 () h.back
      · intro j1
        refine W_block ?_
        refine W_keep (l := [(5, 0), (6, 0), (7, 0), (8, 0), (9, 0)]) (E' := [(5, .box 0 T_api_State x7), (6, .box 0 T_api_State x8), (7, .v 0 (.slice .bool) y9), (8, .v 0 (.slice .bool) y10), (9, .v 0 (.int .i64) (0 : Int))]) (by kernel_rfl) ?_
        refine W_loop' (En := fun (x : Int) => [(5, .box 0 T_api_State x7), (6, .box 0 T_api_State x8), (7, .v 0 (.slice .bool) y9), (8, .v 0 (.slice .bool) y10), (9, .v 0 (.int .i64) x)]) (x := (0 : Int)) h ?_
        rintro x16 K h
        replace h : Leads _ (l17_LiveOff_b2 x7 x8 y9 y10 x16) := h
        unfold l17_LiveOff_b2 at h
        show W _ _ _ _ _ _ [(5, .box 0 T_api_State x7), (6, .box 0 T_api_State x8), (7, .v 0 (.slice .bool) y9), (8, .v 0 (.slice .bool) y10), (9, .v 0 (.int .i64) x16)]
        refine W_seq ?_
        refine W_seq ?_
        refine W_region mixed tys_ok (sup := []) (l := [(5, 0), (6, 0), (7, 0), (8, 0), (9, 0), (68, 0)]) (E' := [(5, .box 0 T_api_State x7), (6, .box 0 T_api_State x8), (7, .v 0 (.slice .bool) y9), (8, .v 0 (.slice .bool) y10), (9, .v 0 (.int .i64) x16), (68, .v 0 .bool (decide (x16 < (y9.length : Int))))]) (obs := []) (by kernel_rfl) (trivial) ?_
        refine W_cond (β := decide (x16 < (y9.length : Int))) (by kernel_rfl) (fun hb => ?_) (fun hb => ?_)
        · rw [hb] at h; rw [cond_true] at h
          refine W_skip ?_
          refine W_seq ?_
          refine W_block ?_
          refine W_seq ?_
          obtain ⟨o1, h⟩ := h.ass
          obtain ⟨o2, h⟩ := h.ass
          refine W_region mixed tys_ok (sup := []) (l := [(5, 0), (6, 0), (7, 0), (8, 0), (9, 0), (81, 0)]) (E' := [(5, .box 0 T_api_State x7), (6, .box 0 T_api_State x8), (7, .v 0 (.slice .bool) y9), (8, .v 0 (.slice .bool) y10), (9, .v 0 (.int .i64) x16), (81, .v 0 .bool ((rd false y10 x16) && (!(rd false y9 x16))))]) (obs := [0 ≤ x16 ∧ x16 < (y10.length : Int), (rd false y10 x16) = true → 0 ≤ x16 ∧ x16 < (y9.length : Int)]) (by kernel_rfl) (⟨o1, o2⟩) ?_
          refine W_cond (β := (rd false y10 x16) && (!(rd false y9 x16))) (by kernel_rfl) (fun hb => ?_) (fun hb => ?_)
          · rw [hb] at h; rw [cond_true] at h
            refine W_seq ?_
            refine W_region mixed tys_ok (sup := []) (l := [(4, 0)]) (E' := [(4, .v 0 .bool false)]) (obs := []) (by kernel_rfl) (trivial) ?_
            refine W_keep (l := [(4, 0)]) (E' := [(4, .v 0 .bool false)]) (by kernel_rfl) ?_
            replace h : false = r := h
            subst h
            exact W_ret tys_ok hw0 (by kernel_rfl) (by kernel_rfl)
          · rw [hb] at h; rw [cond_false] at h
            refine W_skip ?_
            refine W_blk ?_
            refine W_region mixed tys_ok (sup := []) (l := [(5, 0), (6, 0), (7, 0), (8, 0), (9, 0)]) (E' := [(5, .box 0 T_api_State x7), (6, .box 0 T_api_State x8), (7, .v 0 (.slice .bool) y9), (8, .v 0 (.slice .bool) y10), (9, .v 0 (.int .i64) (IntKind.i64.wrap (x16 + (1 : Int))))]) (obs := []) (by kernel_rfl) (trivial) ?_
            refine W_gen (x := IntKind.i64.wrap (x16 + (1 : Int))) (En := fun x17 => [(5, .box 0 T_api_State x7), (6, .box 0 T_api_State x8), (7, .v 0 (.slice .bool) y9), (8, .v 0 (.slice .bool) y10), (9, .v 0 (.int .i64) x17)]) h (fun x17 h => ?_)
            refine W_keep (l := [(5, 0), (6, 0), (7, 0), (8, 0), (9, 0)]) (E' := [(5, .box 0 T_api_State x7), (6, .box 0 T_api_State x8), (7, .v 0 (.slice .bool) y9), (8, .v 0 (.slice .bool) y10), (9, .v 0 (.int .i64) x17)]) (by kernel_rfl) ?_
            exact W_abs h
        · rw [hb] at h; rw [cond_false] at h
          refine W_exit rfl ?_
          refine W_keep (l := [(5, 0), (6, 0)]) (E' := [(5, .box 0 T_api_State x7), (6, .box 0 T_api_State x8)]) (by kernel_rfl) ?_
          exact j1 () h.back

noncomputable def r17_Light_j1 (p0 : D_api_State) (x1 : Int) : Option (Bool) :=
  bnd ((decide ((p0.2.1.length : Int) ≤ (30 : Int))) && (decide (x1 ≤ (8 : Int)))) fun x2 =>
  some x2
noncomputable def r17_Light_j2 (x4 : Int) (x5 : Int) : Option ((Int × Int) ⊕ Bool) :=
  bnd (IntKind.i64.wrap (x4 + (1 : Int))) fun x6 =>
  some (.inl (x5, x6))
noncomputable def r17_Light_b1 (p0 : D_api_State) (x3 : Int) (x4 : Int) : Option ((Int × Int) ⊕ Bool) :=
  bif decide (x4 < (p0.2.1.length : Int)) then
    ass (0 ≤ x4 ∧ x4 < (p0.2.1.length : Int)) <|
    bif (rd z_api_Ticket p0.2.1 x4).2.2.2.1 == (2 : Int) then
      bnd (IntKind.i64.wrap (x3 + (1 : Int))) fun x7 =>
      r17_Light_j2 x4 x7
    else
      r17_Light_j2 x4 x3
  else
    (r17_Light_j1 p0 x3).map .inr
noncomputable def r17_Light (p0 : D_api_State) : Option Bool :=
  loopM (fun x : Int × Int => r17_Light_b1 p0 x.1 x.2) ((0 : Int), (0 : Int))
theorem r17_Light.ok {p0 : D_api_State} {r : Bool} (h : r17_Light p0 = some r) : ACall prog 67 [⟨T_api_State, p0⟩] [⟨0, .bool, r⟩] := by
  replace h := Leads.of h
  unfold r17_Light at h
  refine acall_of func67 (by kernel_rfl) rfl (by kernel_rfl) fun w0 F0 hw0 => ?_
  refine W_seq ?_
  refine W_region mixed tys_ok (sup := []) (l := [(1, 0)]) (E' := [(1, .box 0 T_api_State p0)]) (obs := []) (by kernel_rfl) (trivial) ?_
  refine W_seq ?_
  refine W_region mixed tys_ok (sup := []) (l := [(1, 0), (3, 0)]) (E' := [(1, .box 0 T_api_State p0), (3, .v 0 (.int .i64) (0 : Int))]) (obs := []) (by kernel_rfl) (trivial) ?_
  refine W_seq ?_
  refine W_seq ?_
  refine W_region mixed tys_ok (sup := []) (l := [(1, 0), (3, 0), (4, 0)]) (E' := [(1, .box 0 T_api_State p0), (3, .v 0 (.int .i64) (0 : Int)), (4, .v 0 (.int .i64) (0 : Int))]) (obs := []) (by kernel_rfl) (trivial) ?_
  refine W_join h (Ej := fun (x : Int) => [(1, .box 0 T_api_State p0), (3, .v 0 (.int .i64) x)]) (p := fun x => r17_Light_j1 p0 x) ?_ ?_
  · rintro x1 h
    replace h : Leads _ (r17_Light_j1 p0 x1) := h
    unfold r17_Light_j1 at h
    show W _ _ _ _ _ _ [(1, .box 0 T_api_State p0), (3, .v 0 (.int .i64) x1)]
    refine W_seq ?_
    refine W_region mixed tys_ok (sup := []) (l := [(2, 0)]) (E' := [(2, .v 0 .bool ((decide ((p0.2.1.length : Int) ≤ (30 : Int))) && (decide (x1 ≤ (8 : Int)))))]) (obs := []) (by kernel_rfl) (trivial) ?_
    refine W_gen (x := (decide ((p0.2.1.length : Int) ≤ (30 : Int))) && (decide (x1 ≤ (8 : Int)))) (En := fun x2 => [(2, .v 0 .bool x2)]) h (fun x2 h => ?_)
    refine W_keep (l := [(2, 0)]) (E' := [(2, .v 0 .bool x2)]) (by kernel_rfl) ?_
    replace h : x2 = r := h
    subst h
    exact W_ret tys_ok hw0 (by kernel_rfl) (by kernel_rfl)
  · intro j1
    refine W_block ?_
    refine W_keep (l := [(1, 0), (3, 0), (4, 0)]) (E' := [(1, .box 0 T_api_State p0), (3, .v 0 (.int .i64) (0 : Int)), (4, .v 0 (.int .i64) (0 : Int))]) (by kernel_rfl) ?_
    refine W_loop' (En := fun (x : Int × Int) => [(1, .box 0 T_api_State p0), (3, .v 0 (.int .i64) x.1), (4, .v 0 (.int .i64) x.2)]) (x := ((0 : Int), (0 : Int))) h ?_
    rintro ⟨x3, x4⟩ K h
    replace h : Leads _ (r17_Light_b1 p0 x3 x4) := h
    unfold r17_Light_b1 at h
    show W _ _ _ _ _ _ [(1, .box 0 T_api_State p0), (3, .v 0 (.int .i64) x3), (4, .v 0 (.int .i64) x4)]
    refine W_seq ?_
    refine W_seq ?_
    refine W_region mixed tys_ok (sup := []) (l := [(1, 0), (3, 0), (4, 0), (9, 0)]) (E' := [(1, .box 0 T_api_State p0), (3, .v 0 (.int .i64) x3), (4, .v 0 (.int .i64) x4), (9, .v 0 .bool (decide (x4 < (p0.2.1.length : Int))))]) (obs := []) (by kernel_rfl) (trivial) ?_
    refine W_cond (β := decide (x4 < (p0.2.1.length : Int))) (by kernel_rfl) (fun hb => ?_) (fun hb => ?_)
    · rw [hb] at h; rw [cond_true] at h
      refine W_skip ?_
      refine W_seq ?_
      refine W_block ?_
      refine W_seq ?_
      obtain ⟨o1, h⟩ := h.ass
      refine W_region mixed tys_ok (sup := []) (l := [(1, 0), (3, 0), (4, 0), (18, 0)]) (E' := [(1, .box 0 T_api_State p0), (3, .v 0 (.int .i64) x3), (4, .v 0 (.int .i64) x4), (18, .v 0 .bool ((rd z_api_Ticket p0.2.1 x4).2.2.2.1 == (2 : Int)))]) (obs := [0 ≤ x4 ∧ x4 < (p0.2.1.length : Int)]) (by kernel_rfl) (o1) ?_
      refine W_join h (Ej := fun (x : Int) => [(1, .box 0 T_api_State p0), (3, .v 0 (.int .i64) x), (4, .v 0 (.int .i64) x4)]) (p := fun x => r17_Light_j2 x4 x) ?_ ?_
      · rintro x5 h
        replace h : Leads _ (r17_Light_j2 x4 x5) := h
        unfold r17_Light_j2 at h
        show W _ _ _ _ _ _ [(1, .box 0 T_api_State p0), (3, .v 0 (.int .i64) x5), (4, .v 0 (.int .i64) x4)]
        refine W_blk ?_
        refine W_region mixed tys_ok (sup := []) (l := [(1, 0), (3, 0), (4, 0)]) (E' := [(1, .box 0 T_api_State p0), (3, .v 0 (.int .i64) x5), (4, .v 0 (.int .i64) (IntKind.i64.wrap (x4 + (1 : Int))))]) (obs := []) (by kernel_rfl) (trivial) ?_
        refine W_gen (x := IntKind.i64.wrap (x4 + (1 : Int))) (En := fun x6 => [(1, .box 0 T_api_State p0), (3, .v 0 (.int .i64) x5), (4, .v 0 (.int .i64) x6)]) h (fun x6 h => ?_)
        refine W_keep (l := [(1, 0), (3, 0), (4, 0)]) (E' := [(1, .box 0 T_api_State p0), (3, .v 0 (.int .i64) x5), (4, .v 0 (.int .i64) x6)]) (by kernel_rfl) ?_
        exact W_abs h
      · intro j2
        refine W_cond (β := (rd z_api_Ticket p0.2.1 x4).2.2.2.1 == (2 : Int)) (by kernel_rfl) (fun hb => ?_) (fun hb => ?_)
        · rw [hb] at h; rw [cond_true] at h
          refine W_region mixed tys_ok (sup := []) (l := [(1, 0), (3, 0), (4, 0)]) (E' := [(1, .box 0 T_api_State p0), (3, .v 0 (.int .i64) (IntKind.i64.wrap (x3 + (1 : Int)))), (4, .v 0 (.int .i64) x4)]) (obs := []) (by kernel_rfl) (trivial) ?_
          refine W_gen (x := IntKind.i64.wrap (x3 + (1 : Int))) (En := fun x7 => [(1, .box 0 T_api_State p0), (3, .v 0 (.int .i64) x7), (4, .v 0 (.int .i64) x4)]) h (fun x7 h => ?_)
          refine W_keep (l := [(1, 0), (3, 0), (4, 0)]) (E' := [(1, .box 0 T_api_State p0), (3, .v 0 (.int .i64) x7), (4, .v 0 (.int .i64) x4)]) (by kernel_rfl) ?_
          exact j2 x7 h
        · rw [hb] at h; rw [cond_false] at h
          refine W_skip ?_
          refine W_keep (l := [(1, 0), (3, 0), (4, 0)]) (E' := [(1, .box 0 T_api_State p0), (3, .v 0 (.int .i64) x3), (4, .v 0 (.int .i64) x4)]) (by kernel_rfl) ?_
          exact j2 x3 h
    · rw [hb] at h; rw [cond_false] at h
      refine W_exit rfl ?_
      refine W_keep (l := [(1, 0), (3, 0)]) (E' := [(1, .box 0 T_api_State p0), (3, .v 0 (.int .i64) x3)]) (by kernel_rfl) ?_
      exact j1 x3 h.back

noncomputable def r16_Next_j1 : Option (Int) :=
  some (-1 : Int)
noncomputable def r16_Next_b1 (p1 : Int) (y1 : List D_r13_Arrow) (x2 : Int) : Option (Int ⊕ Int) :=
  bif decide (x2 < (y1.length : Int)) then
    ass (0 ≤ x2 ∧ x2 < (y1.length : Int)) <|
    bif (rd z_r13_Arrow y1 x2).1 == p1 then
      ass (0 ≤ x2 ∧ x2 < (y1.length : Int)) <|
      bnd ((rd z_r13_Arrow y1 x2).2) fun x3 =>
      some (.inr x3)
    else
      bnd (IntKind.i64.wrap (x2 + (1 : Int))) fun x4 =>
      some (.inl x4)
  else
    (r16_Next_j1).map .inr
noncomputable def r16_Next (p0 : D_api_State) (p1 : Int) : Option Int :=
  (r14_ThreadArrows p0).bind fun y1 =>
  loopM (fun x : Int => r16_Next_b1 p1 y1 x) (0 : Int)
theorem r16_Next.ok {p0 : D_api_State} {p1 : Int} {r : Int} (h : r16_Next p0 p1 = some r) : ACall prog 21 [⟨T_api_State, p0⟩, ⟨.int .i64, p1⟩] [⟨0, .int .i64, r⟩] := by
  replace h := Leads.of h
  unfold r16_Next at h
  refine acall_of func21 (by kernel_rfl) rfl (by kernel_rfl) fun w0 F0 hw0 => ?_
  refine W_seq ?_
  refine W_region mixed tys_ok (sup := []) (l := [(1, 0), (2, 0)]) (E' := [(1, .v 0 (.int .i64) p1), (2, .box 0 T_api_State p0)]) (obs := []) (by kernel_rfl) (trivial) ?_
  refine W_seq ?_
  obtain ⟨y1, ey1, h⟩ := h.bind
  refine W_region mixed tys_ok (sup := [.res [(9, ⟨9, .slice T_r13_Arrow, y1⟩)]]) (l := [(1, 0), (5, 9)]) (E' := [(1, .v 0 (.int .i64) p1), (5, .v 9 (.slice T_r13_Arrow) y1)]) (obs := [ACall prog 83 [⟨T_api_State, p0⟩] [⟨9, .slice T_r13_Arrow, y1⟩]]) (by kernel_rfl) (r14_ThreadArrows.ok ey1) ?_
  refine W_seq ?_
  refine W_seq ?_
  refine W_region mixed tys_ok (sup := []) (l := [(1, 0), (5, 9), (6, 0)]) (E' := [(1, .v 0 (.int .i64) p1), (5, .v 9 (.slice T_r13_Arrow) y1), (6, .v 0 (.int .i64) (0 : Int))]) (obs := []) (by kernel_rfl) (trivial) ?_
  refine W_join h (Ej := fun (x : Unit) => []) (p := fun x => r16_Next_j1) ?_ ?_
  · rintro ⟨⟩ h
    replace h : Leads _ (r16_Next_j1) := h
    unfold r16_Next_j1 at h
    show W _ _ _ _ _ _ []
    refine W_seq ?_
    refine W_region mixed tys_ok (sup := []) (l := [(4, 0)]) (E' := [(4, .v 0 (.int .i64) (-1 : Int))]) (obs := []) (by kernel_rfl) (trivial) ?_
    refine W_keep (l := [(4, 0)]) (E' := [(4, .v 0 (.int .i64) (-1 : Int))]) (by kernel_rfl) ?_
    replace h : ((-1 : Int)) = r := h
    subst h
    exact W_ret tys_ok hw0 (by kernel_rfl) (by kernel_rfl)
  · intro j1
    refine W_block ?_
    refine W_keep (l := [(1, 0), (5, 9), (6, 0)]) (E' := [(1, .v 0 (.int .i64) p1), (5, .v 9 (.slice T_r13_Arrow) y1), (6, .v 0 (.int .i64) (0 : Int))]) (by kernel_rfl) ?_
    refine W_loop' (En := fun (x : Int) => [(1, .v 0 (.int .i64) p1), (5, .v 9 (.slice T_r13_Arrow) y1), (6, .v 0 (.int .i64) x)]) (x := (0 : Int)) h ?_
    rintro x2 K h
    replace h : Leads _ (r16_Next_b1 p1 y1 x2) := h
    unfold r16_Next_b1 at h
    show W _ _ _ _ _ _ [(1, .v 0 (.int .i64) p1), (5, .v 9 (.slice T_r13_Arrow) y1), (6, .v 0 (.int .i64) x2)]
    refine W_seq ?_
    refine W_seq ?_
    refine W_region mixed tys_ok (sup := []) (l := [(1, 0), (5, 9), (6, 0), (12, 0)]) (E' := [(1, .v 0 (.int .i64) p1), (5, .v 9 (.slice T_r13_Arrow) y1), (6, .v 0 (.int .i64) x2), (12, .v 0 .bool (decide (x2 < (y1.length : Int))))]) (obs := []) (by kernel_rfl) (trivial) ?_
    refine W_cond (β := decide (x2 < (y1.length : Int))) (by kernel_rfl) (fun hb => ?_) (fun hb => ?_)
    · rw [hb] at h; rw [cond_true] at h
      refine W_skip ?_
      refine W_seq ?_
      refine W_block ?_
      refine W_seq ?_
      obtain ⟨o1, h⟩ := h.ass
      refine W_region mixed tys_ok (sup := []) (l := [(1, 0), (5, 9), (6, 0), (21, 0)]) (E' := [(1, .v 0 (.int .i64) p1), (5, .v 9 (.slice T_r13_Arrow) y1), (6, .v 0 (.int .i64) x2), (21, .v 0 .bool ((rd z_r13_Arrow y1 x2).1 == p1))]) (obs := [0 ≤ x2 ∧ x2 < (y1.length : Int)]) (by kernel_rfl) (o1) ?_
      refine W_cond (β := (rd z_r13_Arrow y1 x2).1 == p1) (by kernel_rfl) (fun hb => ?_) (fun hb => ?_)
      · rw [hb] at h; rw [cond_true] at h
        refine W_seq ?_
        obtain ⟨o1, h⟩ := h.ass
        refine W_region mixed tys_ok (sup := []) (l := [(4, 0)]) (E' := [(4, .v 0 (.int .i64) (rd z_r13_Arrow y1 x2).2)]) (obs := [0 ≤ x2 ∧ x2 < (y1.length : Int)]) (by kernel_rfl) (o1) ?_
        refine W_gen (x := (rd z_r13_Arrow y1 x2).2) (En := fun x3 => [(4, .v 0 (.int .i64) x3)]) h (fun x3 h => ?_)
        refine W_keep (l := [(4, 0)]) (E' := [(4, .v 0 (.int .i64) x3)]) (by kernel_rfl) ?_
        replace h : x3 = r := h
        subst h
        exact W_ret tys_ok hw0 (by kernel_rfl) (by kernel_rfl)
      · rw [hb] at h; rw [cond_false] at h
        refine W_skip ?_
        refine W_blk ?_
        refine W_region mixed tys_ok (sup := []) (l := [(1, 0), (5, 9), (6, 0)]) (E' := [(1, .v 0 (.int .i64) p1), (5, .v 9 (.slice T_r13_Arrow) y1), (6, .v 0 (.int .i64) (IntKind.i64.wrap (x2 + (1 : Int))))]) (obs := []) (by kernel_rfl) (trivial) ?_
        refine W_gen (x := IntKind.i64.wrap (x2 + (1 : Int))) (En := fun x4 => [(1, .v 0 (.int .i64) p1), (5, .v 9 (.slice T_r13_Arrow) y1), (6, .v 0 (.int .i64) x4)]) h (fun x4 h => ?_)
        refine W_keep (l := [(1, 0), (5, 9), (6, 0)]) (E' := [(1, .v 0 (.int .i64) p1), (5, .v 9 (.slice T_r13_Arrow) y1), (6, .v 0 (.int .i64) x4)]) (by kernel_rfl) ?_
        exact W_abs h
    · rw [hb] at h; rw [cond_false] at h
      refine W_exit rfl ?_
      refine W_keep (l := []) (E' := []) (by kernel_rfl) ?_
      exact j1 () h.back

noncomputable def r16_Tail_rec (self : D_api_State → Int → Option (List Int)) (p0 : D_api_State) (p1 : Int) : Option (List Int) :=
  (r14_Thread p0 p1).bind fun y1 =>
  bif !y1 then
    some ([] : List Int)
  else
    (r16_Next p0 p1).bind fun y2 =>
    bif decide (y2 < (0 : Int)) then
      some [p1]
    else
      (self p0 y2).bind fun y3 =>
      ass ((([p1].length + y3.length : Nat) : Int) ≤ limA) <|
      bnd ([p1] ++ y3) fun x4 =>
      some x4
theorem r16_Tail_rec.ok {self : D_api_State → Int → Option (List Int)} (ih : ∀ (p0 : D_api_State) (p1 : Int) (r : List Int), self p0 p1 = some r → ACall prog 20 [⟨T_api_State, p0⟩, ⟨.int .i64, p1⟩] [⟨9, .slice (.int .i64), r⟩]) {p0 : D_api_State} {p1 : Int} {r : List Int} (h : r16_Tail_rec self p0 p1 = some r) : ACall prog 20 [⟨T_api_State, p0⟩, ⟨.int .i64, p1⟩] [⟨9, .slice (.int .i64), r⟩] := by
  replace h := Leads.of h
  unfold r16_Tail_rec at h
  refine acall_of func20 (by kernel_rfl) rfl (by kernel_rfl) fun w0 F0 hw0 => ?_
  refine W_seq ?_
  refine W_region mixed tys_ok (sup := []) (l := [(1, 0), (2, 0)]) (E' := [(1, .v 0 (.int .i64) p1), (2, .box 0 T_api_State p0)]) (obs := []) (by kernel_rfl) (trivial) ?_
  refine W_seq ?_
  refine W_seq ?_
  obtain ⟨y1, ey1, h⟩ := h.bind
  refine W_region mixed tys_ok (sup := [.res [(0, ⟨0, .bool, y1⟩)]]) (l := [(1, 0), (2, 0), (9, 0)]) (E' := [(1, .v 0 (.int .i64) p1), (2, .box 0 T_api_State p0), (9, .v 0 .bool (!y1))]) (obs := [ACall prog 89 [⟨T_api_State, p0⟩, ⟨.int .i64, p1⟩] [⟨0, .bool, y1⟩]]) (by kernel_rfl) (r14_Thread.ok ey1) ?_
  refine W_cond (β := !y1) (by kernel_rfl) (fun hb => ?_) (fun hb => ?_)
  · rw [hb] at h; rw [cond_true] at h
    refine W_seq ?_
    refine W_region mixed tys_ok (sup := []) (l := [(4, 9)]) (E' := [(4, .v 9 (.slice (.int .i64)) ([] : List Int))]) (obs := []) (by kernel_rfl) (trivial) ?_
    refine W_keep (l := [(4, 9)]) (E' := [(4, .v 9 (.slice (.int .i64)) ([] : List Int))]) (by kernel_rfl) ?_
    replace h : (([] : List Int)) = r := h
    subst h
    exact W_ret tys_ok hw0 (by kernel_rfl) (by kernel_rfl)
  · rw [hb] at h; rw [cond_false] at h
    refine W_skip ?_
    refine W_seq ?_
    obtain ⟨y2, ey2, h⟩ := h.bind
    refine W_region mixed tys_ok (sup := [.res [(0, ⟨0, .int .i64, y2⟩)]]) (l := [(1, 0), (2, 0), (5, 0)]) (E' := [(1, .v 0 (.int .i64) p1), (2, .box 0 T_api_State p0), (5, .v 0 (.int .i64) y2)]) (obs := [ACall prog 21 [⟨T_api_State, p0⟩, ⟨.int .i64, p1⟩] [⟨0, .int .i64, y2⟩]]) (by kernel_rfl) (r16_Next.ok ey2) ?_
    refine W_seq ?_
    refine W_seq ?_
    refine W_region mixed tys_ok (sup := []) (l := [(1, 0), (2, 0), (5, 0), (14, 0)]) (E' := [(1, .v 0 (.int .i64) p1), (2, .box 0 T_api_State p0), (5, .v 0 (.int .i64) y2), (14, .v 0 .bool (decide (y2 < (0 : Int))))]) (obs := []) (by kernel_rfl) (trivial) ?_
    refine W_cond (β := decide (y2 < (0 : Int))) (by kernel_rfl) (fun hb => ?_) (fun hb => ?_)
    · rw [hb] at h; rw [cond_true] at h
      refine W_seq ?_
      refine W_region mixed tys_ok (sup := []) (l := [(4, 9)]) (E' := [(4, .v 9 (.slice (.int .i64)) [p1])]) (obs := []) (by kernel_rfl) (trivial) ?_
      refine W_keep (l := [(4, 9)]) (E' := [(4, .v 9 (.slice (.int .i64)) [p1])]) (by kernel_rfl) ?_
      replace h : [p1] = r := h
      subst h
      exact W_ret tys_ok hw0 (by kernel_rfl) (by kernel_rfl)
    · rw [hb] at h; rw [cond_false] at h
      refine W_skip ?_
      refine W_seq ?_
      obtain ⟨y3, ey3, h⟩ := h.bind
      obtain ⟨o1, h⟩ := h.ass
      refine W_region mixed tys_ok (sup := [.res [(9, ⟨9, .slice (.int .i64), y3⟩)]]) (l := [(4, 9)]) (E' := [(4, .v 9 (.slice (.int .i64)) ([p1] ++ y3))]) (obs := [ACall prog 20 [⟨T_api_State, p0⟩, ⟨.int .i64, y2⟩] [⟨9, .slice (.int .i64), y3⟩], (([p1].length + y3.length : Nat) : Int) ≤ limA]) (by kernel_rfl) (⟨ih _ _ _ ey3, o1⟩) ?_
      refine W_gen (x := [p1] ++ y3) (En := fun x4 => [(4, .v 9 (.slice (.int .i64)) x4)]) h (fun x4 h => ?_)
      refine W_keep (l := [(4, 9)]) (E' := [(4, .v 9 (.slice (.int .i64)) x4)]) (by kernel_rfl) ?_
      replace h : x4 = r := h
      subst h
      exact W_ret tys_ok hw0 (by kernel_rfl) (by kernel_rfl)
noncomputable def r16_Tail (p0 : D_api_State) (p1 : Int) : Option (List Int) :=
  fixM (fun (self : (D_api_State × Int) → Option (List Int)) (x : D_api_State × Int) => r16_Tail_rec (fun p0 p1 => self (p0, p1)) x.1 x.2) (p0, p1)
theorem r16_Tail.ok {p0 : D_api_State} {p1 : Int} {r : List Int} (h : r16_Tail p0 p1 = some r) : ACall prog 20 [⟨T_api_State, p0⟩, ⟨.int .i64, p1⟩] [⟨9, .slice (.int .i64), r⟩] :=
  fixM_ind (C := fun (x : D_api_State × Int) (r : List Int) => ACall prog 20 [⟨T_api_State, x.1⟩, ⟨.int .i64, x.2⟩] [⟨9, .slice (.int .i64), r⟩]) (fun self ih x r h => r16_Tail_rec.ok (fun p0 p1 r h => ih (p0, p1) r h) h) h

noncomputable def r16_End (p0 : D_api_State) (p1 : Int) : Option Int :=
  (r16_Tail p0 p1).bind fun y1 =>
  bif (y1.length : Int) == (0 : Int) then
    some (-1 : Int)
  else
    ass (0 ≤ IntKind.i64.wrap ((y1.length : Int) - (1 : Int)) ∧ IntKind.i64.wrap ((y1.length : Int) - (1 : Int)) < (y1.length : Int)) <|
    bnd (rd (0 : Int) y1 (IntKind.i64.wrap ((y1.length : Int) - (1 : Int)))) fun x2 =>
    some x2
theorem r16_End.ok {p0 : D_api_State} {p1 : Int} {r : Int} (h : r16_End p0 p1 = some r) : ACall prog 24 [⟨T_api_State, p0⟩, ⟨.int .i64, p1⟩] [⟨0, .int .i64, r⟩] := by
  replace h := Leads.of h
  unfold r16_End at h
  refine acall_of func24 (by kernel_rfl) rfl (by kernel_rfl) fun w0 F0 hw0 => ?_
  refine W_seq ?_
  refine W_region mixed tys_ok (sup := []) (l := [(1, 0), (2, 0)]) (E' := [(1, .v 0 (.int .i64) p1), (2, .box 0 T_api_State p0)]) (obs := []) (by kernel_rfl) (trivial) ?_
  refine W_seq ?_
  obtain ⟨y1, ey1, h⟩ := h.bind
  refine W_region mixed tys_ok (sup := [.res [(9, ⟨9, .slice (.int .i64), y1⟩)]]) (l := [(5, 9)]) (E' := [(5, .v 9 (.slice (.int .i64)) y1)]) (obs := [ACall prog 20 [⟨T_api_State, p0⟩, ⟨.int .i64, p1⟩] [⟨9, .slice (.int .i64), y1⟩]]) (by kernel_rfl) (r16_Tail.ok ey1) ?_
  refine W_seq ?_
  refine W_seq ?_
  refine W_region mixed tys_ok (sup := []) (l := [(5, 9), (11, 0)]) (E' := [(5, .v 9 (.slice (.int .i64)) y1), (11, .v 0 .bool ((y1.length : Int) == (0 : Int)))]) (obs := []) (by kernel_rfl) (trivial) ?_
  refine W_cond (β := (y1.length : Int) == (0 : Int)) (by kernel_rfl) (fun hb => ?_) (fun hb => ?_)
  · rw [hb] at h; rw [cond_true] at h
    refine W_seq ?_
    refine W_region mixed tys_ok (sup := []) (l := [(4, 0)]) (E' := [(4, .v 0 (.int .i64) (-1 : Int))]) (obs := []) (by kernel_rfl) (trivial) ?_
    refine W_keep (l := [(4, 0)]) (E' := [(4, .v 0 (.int .i64) (-1 : Int))]) (by kernel_rfl) ?_
    replace h : ((-1 : Int)) = r := h
    subst h
    exact W_ret tys_ok hw0 (by kernel_rfl) (by kernel_rfl)
  · rw [hb] at h; rw [cond_false] at h
    refine W_skip ?_
    refine W_seq ?_
    obtain ⟨o1, h⟩ := h.ass
    refine W_region mixed tys_ok (sup := []) (l := [(4, 0)]) (E' := [(4, .v 0 (.int .i64) (rd (0 : Int) y1 (IntKind.i64.wrap ((y1.length : Int) - (1 : Int)))))]) (obs := [0 ≤ IntKind.i64.wrap ((y1.length : Int) - (1 : Int)) ∧ IntKind.i64.wrap ((y1.length : Int) - (1 : Int)) < (y1.length : Int)]) (by kernel_rfl) (o1) ?_
    refine W_gen (x := rd (0 : Int) y1 (IntKind.i64.wrap ((y1.length : Int) - (1 : Int)))) (En := fun x2 => [(4, .v 0 (.int .i64) x2)]) h (fun x2 h => ?_)
    refine W_keep (l := [(4, 0)]) (E' := [(4, .v 0 (.int .i64) x2)]) (by kernel_rfl) ?_
    replace h : x2 = r := h
    subst h
    exact W_ret tys_ok hw0 (by kernel_rfl) (by kernel_rfl)

noncomputable def r16_Lives (p0 : D_api_State) (p1 : Int) : Option Bool :=
  (r16_End p0 p1).bind fun y1 =>
  ass ((decide (y1 ≥ (0 : Int))) = true → 0 ≤ y1 ∧ y1 < (p0.2.2.1.length : Int)) <|
  ass (((decide (y1 ≥ (0 : Int))) && (!((rd z_api_Thread p0.2.2.1 y1).1 == (2 : Int)))) = true → 0 ≤ y1 ∧ y1 < (p0.2.2.1.length : Int)) <|
  bnd ((decide (y1 ≥ (0 : Int))) && (((rd z_api_Thread p0.2.2.1 y1).1 == (2 : Int)) || ((rd z_api_Thread p0.2.2.1 y1).1 == (3 : Int)))) fun x2 =>
  some x2
theorem r16_Lives.ok {p0 : D_api_State} {p1 : Int} {r : Bool} (h : r16_Lives p0 p1 = some r) : ACall prog 25 [⟨T_api_State, p0⟩, ⟨.int .i64, p1⟩] [⟨0, .bool, r⟩] := by
  replace h := Leads.of h
  unfold r16_Lives at h
  refine acall_of func25 (by kernel_rfl) rfl (by kernel_rfl) fun w0 F0 hw0 => ?_
  refine W_seq ?_
  refine W_region mixed tys_ok (sup := []) (l := [(1, 0), (2, 0)]) (E' := [(1, .v 0 (.int .i64) p1), (2, .box 0 T_api_State p0)]) (obs := []) (by kernel_rfl) (trivial) ?_
  refine W_seq ?_
  obtain ⟨y1, ey1, h⟩ := h.bind
  refine W_region mixed tys_ok (sup := [.res [(0, ⟨0, .int .i64, y1⟩)]]) (l := [(2, 0), (5, 0)]) (E' := [(2, .box 0 T_api_State p0), (5, .v 0 (.int .i64) y1)]) (obs := [ACall prog 24 [⟨T_api_State, p0⟩, ⟨.int .i64, p1⟩] [⟨0, .int .i64, y1⟩]]) (by kernel_rfl) (r16_End.ok ey1) ?_
  refine W_seq ?_
  obtain ⟨o1, h⟩ := h.ass
  obtain ⟨o2, h⟩ := h.ass
  refine W_region mixed tys_ok (sup := []) (l := [(4, 0)]) (E' := [(4, .v 0 .bool ((decide (y1 ≥ (0 : Int))) && (((rd z_api_Thread p0.2.2.1 y1).1 == (2 : Int)) || ((rd z_api_Thread p0.2.2.1 y1).1 == (3 : Int)))))]) (obs := [(decide (y1 ≥ (0 : Int))) = true → 0 ≤ y1 ∧ y1 < (p0.2.2.1.length : Int), ((decide (y1 ≥ (0 : Int))) && (!((rd z_api_Thread p0.2.2.1 y1).1 == (2 : Int)))) = true → 0 ≤ y1 ∧ y1 < (p0.2.2.1.length : Int)]) (by kernel_rfl) (⟨o1, o2⟩) ?_
  refine W_gen (x := (decide (y1 ≥ (0 : Int))) && (((rd z_api_Thread p0.2.2.1 y1).1 == (2 : Int)) || ((rd z_api_Thread p0.2.2.1 y1).1 == (3 : Int)))) (En := fun x2 => [(4, .v 0 .bool x2)]) h (fun x2 h => ?_)
  refine W_keep (l := [(4, 0)]) (E' := [(4, .v 0 .bool x2)]) (by kernel_rfl) ?_
  replace h : x2 = r := h
  subst h
  exact W_ret tys_ok hw0 (by kernel_rfl) (by kernel_rfl)

noncomputable def r17_Amount_j1 (x1 : Int) : Option (Int) :=
  some x1
noncomputable def r17_Amount_j2 (x3 : Int) (x5 : Int) : Option ((Int × Int) ⊕ Int) :=
  bnd (IntKind.i64.wrap (x3 + (1 : Int))) fun x6 =>
  some (.inl (x5, x6))
noncomputable def r17_Amount_b1 (p0 : D_api_State) (p1 : Int) (self : D_api_State → Int → Option Bool) (x2 : Int) (x3 : Int) : Option ((Int × Int) ⊕ Int) :=
  bif decide (x3 < (p0.2.1.length : Int)) then
    ass (0 ≤ x3 ∧ x3 < (p0.2.1.length : Int)) <|
    (bif (rd z_api_Ticket p0.2.1 x3).2.1 == p1 then self p0 x3 else some false).bind fun y4 =>
    bif ((rd z_api_Ticket p0.2.1 x3).2.1 == p1) && y4 then
      ass (0 ≤ x3 ∧ x3 < (p0.2.1.length : Int)) <|
      bnd (IntKind.i64.wrap (x2 + (rd z_api_Ticket p0.2.1 x3).2.2.1)) fun x7 =>
      r17_Amount_j2 x3 x7
    else
      r17_Amount_j2 x3 x2
  else
    (r17_Amount_j1 x2).map .inr
noncomputable def r17_Amount_rec (self : D_api_State → Int → Option Bool) (p0 : D_api_State) (p1 : Int) : Option Int :=
  loopM (fun x : Int × Int => r17_Amount_b1 p0 p1 self x.1 x.2) ((0 : Int), (0 : Int))
theorem r17_Amount_rec.ok {self : D_api_State → Int → Option Bool} (ih : ∀ (p0 : D_api_State) (p1 : Int) (r : Bool), self p0 p1 = some r → ACall prog 72 [⟨T_api_State, p0⟩, ⟨.int .i64, p1⟩] [⟨0, .bool, r⟩]) {p0 : D_api_State} {p1 : Int} {r : Int} (h : r17_Amount_rec self p0 p1 = some r) : ACall prog 73 [⟨T_api_State, p0⟩, ⟨.int .i64, p1⟩] [⟨0, .int .i64, r⟩] := by
  replace h := Leads.of h
  unfold r17_Amount_rec at h
  refine acall_of func73 (by kernel_rfl) rfl (by kernel_rfl) fun w0 F0 hw0 => ?_
  refine W_seq ?_
  refine W_region mixed tys_ok (sup := []) (l := [(1, 0), (2, 0)]) (E' := [(1, .v 0 (.int .i64) p1), (2, .box 0 T_api_State p0)]) (obs := []) (by kernel_rfl) (trivial) ?_
  refine W_seq ?_
  refine W_region mixed tys_ok (sup := []) (l := [(1, 0), (2, 0), (5, 0)]) (E' := [(1, .v 0 (.int .i64) p1), (2, .box 0 T_api_State p0), (5, .v 0 (.int .i64) (0 : Int))]) (obs := []) (by kernel_rfl) (trivial) ?_
  refine W_seq ?_
  refine W_seq ?_
  refine W_region mixed tys_ok (sup := []) (l := [(1, 0), (2, 0), (5, 0), (6, 0)]) (E' := [(1, .v 0 (.int .i64) p1), (2, .box 0 T_api_State p0), (5, .v 0 (.int .i64) (0 : Int)), (6, .v 0 (.int .i64) (0 : Int))]) (obs := []) (by kernel_rfl) (trivial) ?_
  refine W_join h (Ej := fun (x : Int) => [(5, .v 0 (.int .i64) x)]) (p := fun x => r17_Amount_j1 x) ?_ ?_
  · rintro x1 h
    replace h : Leads _ (r17_Amount_j1 x1) := h
    unfold r17_Amount_j1 at h
    show W _ _ _ _ _ _ [(5, .v 0 (.int .i64) x1)]
    refine W_seq ?_
    refine W_region mixed tys_ok (sup := []) (l := [(4, 0)]) (E' := [(4, .v 0 (.int .i64) x1)]) (obs := []) (by kernel_rfl) (trivial) ?_
    refine W_keep (l := [(4, 0)]) (E' := [(4, .v 0 (.int .i64) x1)]) (by kernel_rfl) ?_
    replace h : x1 = r := h
    subst h
    exact W_ret tys_ok hw0 (by kernel_rfl) (by kernel_rfl)
  · intro j1
    refine W_block ?_
    refine W_keep (l := [(1, 0), (2, 0), (5, 0), (6, 0)]) (E' := [(1, .v 0 (.int .i64) p1), (2, .box 0 T_api_State p0), (5, .v 0 (.int .i64) (0 : Int)), (6, .v 0 (.int .i64) (0 : Int))]) (by kernel_rfl) ?_
    refine W_loop' (En := fun (x : Int × Int) => [(1, .v 0 (.int .i64) p1), (2, .box 0 T_api_State p0), (5, .v 0 (.int .i64) x.1), (6, .v 0 (.int .i64) x.2)]) (x := ((0 : Int), (0 : Int))) h ?_
    rintro ⟨x2, x3⟩ K h
    replace h : Leads _ (r17_Amount_b1 p0 p1 self x2 x3) := h
    unfold r17_Amount_b1 at h
    show W _ _ _ _ _ _ [(1, .v 0 (.int .i64) p1), (2, .box 0 T_api_State p0), (5, .v 0 (.int .i64) x2), (6, .v 0 (.int .i64) x3)]
    refine W_seq ?_
    refine W_seq ?_
    refine W_region mixed tys_ok (sup := []) (l := [(1, 0), (2, 0), (5, 0), (6, 0), (11, 0)]) (E' := [(1, .v 0 (.int .i64) p1), (2, .box 0 T_api_State p0), (5, .v 0 (.int .i64) x2), (6, .v 0 (.int .i64) x3), (11, .v 0 .bool (decide (x3 < (p0.2.1.length : Int))))]) (obs := []) (by kernel_rfl) (trivial) ?_
    refine W_cond (β := decide (x3 < (p0.2.1.length : Int))) (by kernel_rfl) (fun hb => ?_) (fun hb => ?_)
    · rw [hb] at h; rw [cond_true] at h
      refine W_skip ?_
      refine W_seq ?_
      refine W_block ?_
      refine W_seq ?_
      obtain ⟨o1, h⟩ := h.ass
      obtain ⟨y4, ey4, h⟩ := h.bind
      refine W_region mixed tys_ok (sup := [.res [(0, ⟨0, .bool, y4⟩)]]) (l := [(1, 0), (2, 0), (5, 0), (6, 0), (26, 0)]) (E' := [(1, .v 0 (.int .i64) p1), (2, .box 0 T_api_State p0), (5, .v 0 (.int .i64) x2), (6, .v 0 (.int .i64) x3), (26, .v 0 .bool (((rd z_api_Ticket p0.2.1 x3).2.1 == p1) && y4))]) (obs := [0 ≤ x3 ∧ x3 < (p0.2.1.length : Int), ((rd z_api_Ticket p0.2.1 x3).2.1 == p1) = true → ACall prog 72 [⟨T_api_State, p0⟩, ⟨.int .i64, x3⟩] [⟨0, .bool, y4⟩]]) (by kernel_rfl) (⟨o1, fun hc => ih _ _ _ (bif_some ey4 hc)⟩) ?_
      refine W_join h (Ej := fun (x : Int) => [(1, .v 0 (.int .i64) p1), (2, .box 0 T_api_State p0), (5, .v 0 (.int .i64) x), (6, .v 0 (.int .i64) x3)]) (p := fun x => r17_Amount_j2 x3 x) ?_ ?_
      · rintro x5 h
        replace h : Leads _ (r17_Amount_j2 x3 x5) := h
        unfold r17_Amount_j2 at h
        show W _ _ _ _ _ _ [(1, .v 0 (.int .i64) p1), (2, .box 0 T_api_State p0), (5, .v 0 (.int .i64) x5), (6, .v 0 (.int .i64) x3)]
        refine W_blk ?_
        refine W_region mixed tys_ok (sup := []) (l := [(1, 0), (2, 0), (5, 0), (6, 0)]) (E' := [(1, .v 0 (.int .i64) p1), (2, .box 0 T_api_State p0), (5, .v 0 (.int .i64) x5), (6, .v 0 (.int .i64) (IntKind.i64.wrap (x3 + (1 : Int))))]) (obs := []) (by kernel_rfl) (trivial) ?_
        refine W_gen (x := IntKind.i64.wrap (x3 + (1 : Int))) (En := fun x6 => [(1, .v 0 (.int .i64) p1), (2, .box 0 T_api_State p0), (5, .v 0 (.int .i64) x5), (6, .v 0 (.int .i64) x6)]) h (fun x6 h => ?_)
        refine W_keep (l := [(1, 0), (2, 0), (5, 0), (6, 0)]) (E' := [(1, .v 0 (.int .i64) p1), (2, .box 0 T_api_State p0), (5, .v 0 (.int .i64) x5), (6, .v 0 (.int .i64) x6)]) (by kernel_rfl) ?_
        exact W_abs h
      · intro j2
        refine W_cond (β := ((rd z_api_Ticket p0.2.1 x3).2.1 == p1) && y4) (by kernel_rfl) (fun hb => ?_) (fun hb => ?_)
        · rw [hb] at h; rw [cond_true] at h
          obtain ⟨o1, h⟩ := h.ass
          refine W_region mixed tys_ok (sup := []) (l := [(1, 0), (2, 0), (5, 0), (6, 0)]) (E' := [(1, .v 0 (.int .i64) p1), (2, .box 0 T_api_State p0), (5, .v 0 (.int .i64) (IntKind.i64.wrap (x2 + (rd z_api_Ticket p0.2.1 x3).2.2.1))), (6, .v 0 (.int .i64) x3)]) (obs := [0 ≤ x3 ∧ x3 < (p0.2.1.length : Int)]) (by kernel_rfl) (o1) ?_
          refine W_gen (x := IntKind.i64.wrap (x2 + (rd z_api_Ticket p0.2.1 x3).2.2.1)) (En := fun x7 => [(1, .v 0 (.int .i64) p1), (2, .box 0 T_api_State p0), (5, .v 0 (.int .i64) x7), (6, .v 0 (.int .i64) x3)]) h (fun x7 h => ?_)
          refine W_keep (l := [(1, 0), (2, 0), (5, 0), (6, 0)]) (E' := [(1, .v 0 (.int .i64) p1), (2, .box 0 T_api_State p0), (5, .v 0 (.int .i64) x7), (6, .v 0 (.int .i64) x3)]) (by kernel_rfl) ?_
          exact j2 x7 h
        · rw [hb] at h; rw [cond_false] at h
          refine W_skip ?_
          refine W_keep (l := [(1, 0), (2, 0), (5, 0), (6, 0)]) (E' := [(1, .v 0 (.int .i64) p1), (2, .box 0 T_api_State p0), (5, .v 0 (.int .i64) x2), (6, .v 0 (.int .i64) x3)]) (by kernel_rfl) ?_
          exact j2 x2 h
    · rw [hb] at h; rw [cond_false] at h
      refine W_exit rfl ?_
      refine W_keep (l := [(5, 0)]) (E' := [(5, .v 0 (.int .i64) x2)]) (by kernel_rfl) ?_
      exact j1 x2 h.back

noncomputable def r17_Counts_rec (self : D_api_State → Int → Option Bool) (p0 : D_api_State) (p1 : Int) : Option Bool :=
  ass (0 ≤ p1 ∧ p1 < (p0.2.1.length : Int)) <|
  bnd (rd z_api_Ticket p0.2.1 p1) fun x1 =>
  bif (!x1.1) || (!x1.2.2.2.2.2) then
    some false
  else
    bif x1.2.2.2.1 == (1 : Int) then
      (r16_Lives p0 x1.2.2.2.2.1).bind fun y2 =>
      some y2
    else
      (bif x1.2.2.2.1 == (2 : Int) then r17_Amount_rec self p0 x1.2.2.2.2.1 else some (0 : Int)).bind fun y3 =>
      bnd ((x1.2.2.2.1 == (2 : Int)) && (decide (y3 > (0 : Int)))) fun x4 =>
      some x4
theorem r17_Counts_rec.ok {self : D_api_State → Int → Option Bool} (ih : ∀ (p0 : D_api_State) (p1 : Int) (r : Bool), self p0 p1 = some r → ACall prog 72 [⟨T_api_State, p0⟩, ⟨.int .i64, p1⟩] [⟨0, .bool, r⟩]) {p0 : D_api_State} {p1 : Int} {r : Bool} (h : r17_Counts_rec self p0 p1 = some r) : ACall prog 72 [⟨T_api_State, p0⟩, ⟨.int .i64, p1⟩] [⟨0, .bool, r⟩] := by
  replace h := Leads.of h
  unfold r17_Counts_rec at h
  refine acall_of func72 (by kernel_rfl) rfl (by kernel_rfl) fun w0 F0 hw0 => ?_
  refine W_seq ?_
  refine W_region mixed tys_ok (sup := []) (l := [(1, 0), (2, 0)]) (E' := [(1, .v 0 (.int .i64) p1), (2, .box 0 T_api_State p0)]) (obs := []) (by kernel_rfl) (trivial) ?_
  refine W_seq ?_
  obtain ⟨o1, h⟩ := h.ass
  refine W_region mixed tys_ok (sup := []) (l := [(2, 0), (5, 9)]) (E' := [(2, .box 0 T_api_State p0), (5, .box 9 T_api_Ticket (rd z_api_Ticket p0.2.1 p1))]) (obs := [0 ≤ p1 ∧ p1 < (p0.2.1.length : Int)]) (by kernel_rfl) (o1) ?_
  refine W_gen (x := rd z_api_Ticket p0.2.1 p1) (En := fun x1 => [(2, .box 0 T_api_State p0), (5, .box 9 T_api_Ticket x1)]) h (fun x1 h => ?_)
  refine W_seq ?_
  refine W_seq ?_
  refine W_region mixed tys_ok (sup := []) (l := [(2, 0), (5, 9), (18, 0)]) (E' := [(2, .box 0 T_api_State p0), (5, .box 9 T_api_Ticket x1), (18, .v 0 .bool ((!x1.1) || (!x1.2.2.2.2.2)))]) (obs := []) (by kernel_rfl) (trivial) ?_
  refine W_cond (β := (!x1.1) || (!x1.2.2.2.2.2)) (by kernel_rfl) (fun hb => ?_) (fun hb => ?_)
  · rw [hb] at h; rw [cond_true] at h
    refine W_seq ?_
    refine W_region mixed tys_ok (sup := []) (l := [(4, 0)]) (E' := [(4, .v 0 .bool false)]) (obs := []) (by kernel_rfl) (trivial) ?_
    refine W_keep (l := [(4, 0)]) (E' := [(4, .v 0 .bool false)]) (by kernel_rfl) ?_
    replace h : false = r := h
    subst h
    exact W_ret tys_ok hw0 (by kernel_rfl) (by kernel_rfl)
  · rw [hb] at h; rw [cond_false] at h
    refine W_skip ?_
    refine W_seq ?_
    refine W_seq ?_
    refine W_region mixed tys_ok (sup := []) (l := [(2, 0), (5, 9), (21, 0)]) (E' := [(2, .box 0 T_api_State p0), (5, .box 9 T_api_Ticket x1), (21, .v 0 .bool (x1.2.2.2.1 == (1 : Int)))]) (obs := []) (by kernel_rfl) (trivial) ?_
    refine W_cond (β := x1.2.2.2.1 == (1 : Int)) (by kernel_rfl) (fun hb => ?_) (fun hb => ?_)
    · rw [hb] at h; rw [cond_true] at h
      refine W_seq ?_
      obtain ⟨y2, ey2, h⟩ := h.bind
      refine W_region mixed tys_ok (sup := [.res [(0, ⟨0, .bool, y2⟩)]]) (l := [(4, 0)]) (E' := [(4, .v 0 .bool y2)]) (obs := [ACall prog 25 [⟨T_api_State, p0⟩, ⟨.int .i64, x1.2.2.2.2.1⟩] [⟨0, .bool, y2⟩]]) (by kernel_rfl) (r16_Lives.ok ey2) ?_
      refine W_keep (l := [(4, 0)]) (E' := [(4, .v 0 .bool y2)]) (by kernel_rfl) ?_
      replace h : y2 = r := h
      subst h
      exact W_ret tys_ok hw0 (by kernel_rfl) (by kernel_rfl)
    · rw [hb] at h; rw [cond_false] at h
      refine W_skip ?_
      refine W_seq ?_
      obtain ⟨y3, ey3, h⟩ := h.bind
      refine W_region mixed tys_ok (sup := [.res [(0, ⟨0, .int .i64, y3⟩)]]) (l := [(4, 0)]) (E' := [(4, .v 0 .bool ((x1.2.2.2.1 == (2 : Int)) && (decide (y3 > (0 : Int)))))]) (obs := [(x1.2.2.2.1 == (2 : Int)) = true → ACall prog 73 [⟨T_api_State, p0⟩, ⟨.int .i64, x1.2.2.2.2.1⟩] [⟨0, .int .i64, y3⟩]]) (by kernel_rfl) (fun hc => r17_Amount_rec.ok ih (bif_some ey3 hc)) ?_
      refine W_gen (x := (x1.2.2.2.1 == (2 : Int)) && (decide (y3 > (0 : Int)))) (En := fun x4 => [(4, .v 0 .bool x4)]) h (fun x4 h => ?_)
      refine W_keep (l := [(4, 0)]) (E' := [(4, .v 0 .bool x4)]) (by kernel_rfl) ?_
      replace h : x4 = r := h
      subst h
      exact W_ret tys_ok hw0 (by kernel_rfl) (by kernel_rfl)
noncomputable def r17_Counts (p0 : D_api_State) (p1 : Int) : Option Bool :=
  fixM (fun (self : (D_api_State × Int) → Option Bool) (x : D_api_State × Int) => r17_Counts_rec (fun p0 p1 => self (p0, p1)) x.1 x.2) (p0, p1)
theorem r17_Counts.ok {p0 : D_api_State} {p1 : Int} {r : Bool} (h : r17_Counts p0 p1 = some r) : ACall prog 72 [⟨T_api_State, p0⟩, ⟨.int .i64, p1⟩] [⟨0, .bool, r⟩] :=
  fixM_ind (C := fun (x : D_api_State × Int) (r : Bool) => ACall prog 72 [⟨T_api_State, x.1⟩, ⟨.int .i64, x.2⟩] [⟨0, .bool, r⟩]) (fun self ih x r h => r17_Counts_rec.ok (fun p0 p1 r h => ih (p0, p1) r h) h) h

noncomputable def r17_Amount (p0 : D_api_State) (p1 : Int) : Option Int := r17_Amount_rec (fun p0 p1 => r17_Counts p0 p1) p0 p1
theorem r17_Amount.ok {p0 : D_api_State} {p1 : Int} {r : Int} (h : r17_Amount p0 p1 = some r) : ACall prog 73 [⟨T_api_State, p0⟩, ⟨.int .i64, p1⟩] [⟨0, .int .i64, r⟩] := r17_Amount_rec.ok (fun p0 p1 r h => r17_Counts.ok h) h

noncomputable def l17_LiveTells_j3 (p0 : D_api_State) (p1 : Int) (x8 : List Int) : Option (Bool) :=
  (live_Awake p0 p1).bind fun y9 =>
  (r14_Coin p0 p1).bind fun y10 =>
  (bif y10 then r17_Amount p0 p1 else some (0 : Int)).bind fun y11 =>
  (bif y9 == (y10 && (decide (y11 > (0 : Int)))) then live_Dead p0 else some ([] : List Int)).bind fun y12 =>
  (bif y9 == (y10 && (decide (y11 > (0 : Int)))) then r11_Ints y12 x8 else some false).bind fun y13 =>
  (bif (y9 == (y10 && (decide (y11 > (0 : Int))))) && y13 then l17_alive else some false).bind fun y14 =>
  bnd (((y9 == (y10 && (decide (y11 > (0 : Int))))) && y13) && y14) fun x15 =>
  some x15
noncomputable def l17_LiveTells_b1 (p0 : D_api_State) (p1 : Int) (y7 : List Bool) (x8 : List Int) (x16 : Int) : Option (Int ⊕ Bool) :=
  bif decide (x16 < (y7.length : Int)) then
    ass (0 ≤ x16 ∧ x16 < (y7.length : Int)) <|
    (r16_Lives p0 x16).bind fun y17 =>
    bif (rd false y7 x16) != y17 then
      some (.inr false)
    else
      bnd (IntKind.i64.wrap (x16 + (1 : Int))) fun x18 =>
      some (.inl x18)
  else
    (l17_LiveTells_j3 p0 p1 x8).map .inr
noncomputable def l17_LiveTells_j2 (p0 : D_api_State) (p1 : Int) (y7 : List Bool) (x8 : List Int) : Option (Bool) :=
  loopM (fun x : Int => l17_LiveTells_b1 p0 p1 y7 x8 x) (0 : Int)
noncomputable def l17_LiveTells_b2 (p0 : D_api_State) (p1 : Int) (y6 : List Int) (y7 : List Bool) (x8 : List Int) (x19 : Int) : Option (Int ⊕ Bool) :=
  bif decide (x19 < (y6.length : Int)) then
    ass (0 ≤ x19 ∧ x19 < (y6.length : Int)) <|
    (r17_Amount p0 x19).bind fun y20 =>
    bif (rd (0 : Int) y6 x19) != y20 then
      some (.inr false)
    else
      bnd (IntKind.i64.wrap (x19 + (1 : Int))) fun x21 =>
      some (.inl x21)
  else
    (l17_LiveTells_j2 p0 p1 y7 x8).map .inr
noncomputable def l17_LiveTells_j1 (p0 : D_api_State) (p1 : Int) (y6 : List Int) (y7 : List Bool) (x8 : List Int) : Option (Bool) :=
  loopM (fun x : Int => l17_LiveTells_b2 p0 p1 y6 y7 x8 x) (0 : Int)
noncomputable def l17_LiveTells_j4 (x23 : Int) (x25 : List Int) : Option (((List Int) × Int) ⊕ Bool) :=
  bnd (IntKind.i64.wrap (x23 + (1 : Int))) fun x26 =>
  some (.inl (x25, x26))
noncomputable def l17_LiveTells_b3 (p0 : D_api_State) (p1 : Int) (y5 : List Bool) (y6 : List Int) (y7 : List Bool) (x22 : List Int) (x23 : Int) : Option (((List Int) × Int) ⊕ Bool) :=
  bif decide (x23 < (y5.length : Int)) then
    ass (0 ≤ x23 ∧ x23 < (y5.length : Int)) <|
    (r17_Counts p0 x23).bind fun y24 =>
    bif (rd false y5 x23) != y24 then
      some (.inr false)
    else
      ass (0 ≤ x23 ∧ x23 < (p0.2.1.length : Int)) <|
      ass ((rd z_api_Ticket p0.2.1 x23).1 = true → 0 ≤ x23 ∧ x23 < (y5.length : Int)) <|
      bif (rd z_api_Ticket p0.2.1 x23).1 && (!(rd false y5 x23)) then
        ass (((x22.length + [x23].length : Nat) : Int) ≤ limA) <|
        bnd (x22 ++ [x23]) fun x27 =>
        l17_LiveTells_j4 x23 x27
      else
        l17_LiveTells_j4 x23 x22
  else
    (l17_LiveTells_j1 p0 p1 y6 y7 x22).map .inr
noncomputable def l17_LiveTells (p0 : D_api_State) (p1 : Int) : Option Bool :=
  (r14_Small p0).bind fun y1 =>
  (bif !(!y1) then r17_Light p0 else some false).bind fun y2 =>
  (bif !((!y1) || (!y2)) then r14_Fine p0 else some false).bind fun y3 =>
  bif ((!y1) || (!y2)) || (!y3) then
    (l17_alive).bind fun y4 =>
    some y4
  else
    (live_Tickets p0).bind fun y5 =>
    (live_Amounts p0).bind fun y6 =>
    (live_Threads p0).bind fun y7 =>
    bif (((y5.length : Int) != (p0.2.1.length : Int)) || ((y6.length : Int) != (p0.1.length : Int))) || ((y7.length : Int) != (p0.2.2.1.length : Int)) then
      some false
    else
      loopM (fun x : (List Int) × Int => l17_LiveTells_b3 p0 p1 y5 y6 y7 x.1 x.2) (([] : List Int), (0 : Int))
theorem l17_LiveTells.ok {p0 : D_api_State} {p1 : Int} {r : Bool} (h : l17_LiveTells p0 p1 = some r) : ACall prog 10 [⟨T_api_State, p0⟩, ⟨.int .i64, p1⟩] [⟨0, .bool, r⟩] := by
  replace h := Leads.of h
  unfold l17_LiveTells at h
  refine acall_of func10 (by kernel_rfl) rfl (by kernel_rfl) fun w0 F0 hw0 => ?_
  refine W_seq ?_
  refine W_region mixed tys_ok (sup := []) (l := [(1, 0), (2, 0)]) (E' := [(1, .v 0 (.int .i64) p1), (2, .box 0 T_api_State p0)]) (obs := []) (by kernel_rfl) (trivial) ?_
  refine W_seq ?_
  refine W_seq ?_
  obtain ⟨y1, ey1, h⟩ := h.bind
  obtain ⟨y2, ey2, h⟩ := h.bind
  obtain ⟨y3, ey3, h⟩ := h.bind
  refine W_region mixed tys_ok (sup := [.res [(0, ⟨0, .bool, y1⟩)], .res [(0, ⟨0, .bool, y2⟩)], .res [(0, ⟨0, .bool, y3⟩)]]) (l := [(1, 0), (2, 0), (24, 0)]) (E' := [(1, .v 0 (.int .i64) p1), (2, .box 0 T_api_State p0), (24, .v 0 .bool (((!y1) || (!y2)) || (!y3)))]) (obs := [ACall prog 12 [⟨T_api_State, p0⟩] [⟨0, .bool, y1⟩], (!(!y1)) = true → ACall prog 67 [⟨T_api_State, p0⟩] [⟨0, .bool, y2⟩], (!((!y1) || (!y2))) = true → ACall prog 13 [⟨T_api_State, p0⟩] [⟨0, .bool, y3⟩]]) (by kernel_rfl) (⟨r14_Small.ok ey1, fun hc => r17_Light.ok (bif_some ey2 hc), fun hc => r14_Fine.ok (bif_some ey3 hc)⟩) ?_
  refine W_cond (β := ((!y1) || (!y2)) || (!y3)) (by kernel_rfl) (fun hb => ?_) (fun hb => ?_)
  · rw [hb] at h; rw [cond_true] at h
    refine W_seq ?_
    obtain ⟨y4, ey4, h⟩ := h.bind
    refine W_region mixed tys_ok (sup := [.res [(0, ⟨0, .bool, y4⟩)]]) (l := [(4, 0)]) (E' := [(4, .v 0 .bool y4)]) (obs := [ACall prog 68 [] [⟨0, .bool, y4⟩]]) (by kernel_rfl) (l17_alive.ok ey4) ?_
    refine W_keep (l := [(4, 0)]) (E' := [(4, .v 0 .bool y4)]) (by kernel_rfl) ?_
    replace h : y4 = r := h
    subst h
    exact W_ret tys_ok hw0 (by kernel_rfl) (by kernel_rfl)
  · rw [hb] at h; rw [cond_false] at h
    refine W_skip ?_
    refine W_seq ?_
    obtain ⟨y5, ey5, h⟩ := h.bind
    obtain ⟨y6, ey6, h⟩ := h.bind
    obtain ⟨y7, ey7, h⟩ := h.bind
    refine W_region mixed tys_ok (sup := [.res [(0, ⟨0, .slice .bool, y5⟩)], .res [(0, ⟨0, .slice (.int .i64), y6⟩)], .res [(9, ⟨9, .slice .bool, y7⟩)]]) (l := [(1, 0), (2, 0), (5, 0), (6, 0), (7, 9)]) (E' := [(1, .v 0 (.int .i64) p1), (2, .box 0 T_api_State p0), (5, .v 0 (.slice .bool) y5), (6, .v 0 (.slice (.int .i64)) y6), (7, .v 9 (.slice .bool) y7)]) (obs := [ACall prog 69 [⟨T_api_State, p0⟩] [⟨0, .slice .bool, y5⟩], ACall prog 70 [⟨T_api_State, p0⟩] [⟨0, .slice (.int .i64), y6⟩], ACall prog 71 [⟨T_api_State, p0⟩] [⟨9, .slice .bool, y7⟩]]) (by kernel_rfl) (⟨live_Tickets.ok ey5, live_Amounts.ok ey6, live_Threads.ok ey7⟩) ?_
    refine W_seq ?_
    refine W_seq ?_
    refine W_region mixed tys_ok (sup := []) (l := [(1, 0), (2, 0), (5, 0), (6, 0), (7, 9), (53, 0)]) (E' := [(1, .v 0 (.int .i64) p1), (2, .box 0 T_api_State p0), (5, .v 0 (.slice .bool) y5), (6, .v 0 (.slice (.int .i64)) y6), (7, .v 9 (.slice .bool) y7), (53, .v 0 .bool ((((y5.length : Int) != (p0.2.1.length : Int)) || ((y6.length : Int) != (p0.1.length : Int))) || ((y7.length : Int) != (p0.2.2.1.length : Int))))]) (obs := []) (by kernel_rfl) (trivial) ?_
    refine W_cond (β := (((y5.length : Int) != (p0.2.1.length : Int)) || ((y6.length : Int) != (p0.1.length : Int))) || ((y7.length : Int) != (p0.2.2.1.length : Int))) (by kernel_rfl) (fun hb => ?_) (fun hb => ?_)
    · rw [hb] at h; rw [cond_true] at h
      refine W_seq ?_
      refine W_region mixed tys_ok (sup := []) (l := [(4, 0)]) (E' := [(4, .v 0 .bool false)]) (obs := []) (by kernel_rfl) (trivial) ?_
      refine W_keep (l := [(4, 0)]) (E' := [(4, .v 0 .bool false)]) (by kernel_rfl) ?_
      replace h : false = r := h
      subst h
      exact W_ret tys_ok hw0 (by kernel_rfl) (by kernel_rfl)
    · rw [hb] at h; rw [cond_false] at h
      refine W_skip ?_
      refine W_seq ?_
      refine W_region mixed tys_ok (sup := []) (l := [(1, 0), (2, 0), (5, 0), (6, 0), (7, 9), (8, 9)]) (E' := [(1, .v 0 (.int .i64) p1), (2, .box 0 T_api_State p0), (5, .v 0 (.slice .bool) y5), (6, .v 0 (.slice (.int .i64)) y6), (7, .v 9 (.slice .bool) y7), (8, .v 9 (.slice (.int .i64)) ([] : List Int))]) (obs := []) (by kernel_rfl) (trivial) ?_
      refine W_seq ?_
      refine W_seq ?_
      refine W_region mixed tys_ok (sup := []) (l := [(1, 0), (2, 0), (5, 0), (6, 0), (7, 9), (8, 9), (9, 0)]) (E' := [(1, .v 0 (.int .i64) p1), (2, .box 0 T_api_State p0), (5, .v 0 (.slice .bool) y5), (6, .v 0 (.slice (.int .i64)) y6), (7, .v 9 (.slice .bool) y7), (8, .v 9 (.slice (.int .i64)) ([] : List Int)), (9, .v 0 (.int .i64) (0 : Int))]) (obs := []) (by kernel_rfl) (trivial) ?_
      refine W_join h (Ej := fun (x : List Int) => [(1, .v 0 (.int .i64) p1), (2, .box 0 T_api_State p0), (6, .v 0 (.slice (.int .i64)) y6), (7, .v 9 (.slice .bool) y7), (8, .v 9 (.slice (.int .i64)) x)]) (p := fun x => l17_LiveTells_j1 p0 p1 y6 y7 x) ?_ ?_
      · rintro x8 h
        replace h : Leads _ (l17_LiveTells_j1 p0 p1 y6 y7 x8) := h
        unfold l17_LiveTells_j1 at h
        show W _ _ _ _ _ _ [(1, .v 0 (.int .i64) p1), (2, .box 0 T_api_State p0), (6, .v 0 (.slice (.int .i64)) y6), (7, .v 9 (.slice .bool) y7), (8, .v 9 (.slice (.int .i64)) x8)]
        refine W_seq ?_
        refine W_seq ?_
        refine W_region mixed tys_ok (sup := []) (l := [(1, 0), (2, 0), (6, 0), (7, 9), (8, 9), (10, 0)]) (E' := [(1, .v 0 (.int .i64) p1), (2, .box 0 T_api_State p0), (6, .v 0 (.slice (.int .i64)) y6), (7, .v 9 (.slice .bool) y7), (8, .v 9 (.slice (.int .i64)) x8), (10, .v 0 (.int .i64) (0 : Int))]) (obs := []) (by kernel_rfl) (trivial) ?_
        refine W_join h (Ej := fun (x : Unit) => [(1, .v 0 (.int .i64) p1), (2, .box 0 T_api_State p0), (7, .v 9 (.slice .bool) y7), (8, .v 9 (.slice (.int .i64)) x8)]) (p := fun x => l17_LiveTells_j2 p0 p1 y7 x8) ?_ ?_
        · rintro ⟨⟩ h
          replace h : Leads _ (l17_LiveTells_j2 p0 p1 y7 x8) := h
          unfold l17_LiveTells_j2 at h
          show W _ _ _ _ _ _ [(1, .v 0 (.int .i64) p1), (2, .box 0 T_api_State p0), (7, .v 9 (.slice .bool) y7), (8, .v 9 (.slice (.int .i64)) x8)]
          refine W_seq ?_
          refine W_seq ?_
          refine W_region mixed tys_ok (sup := []) (l := [(1, 0), (2, 0), (7, 9), (8, 9), (11, 0)]) (E' := [(1, .v 0 (.int .i64) p1), (2, .box 0 T_api_State p0), (7, .v 9 (.slice .bool) y7), (8, .v 9 (.slice (.int .i64)) x8), (11, .v 0 (.int .i64) (0 : Int))]) (obs := []) (by kernel_rfl) (trivial) ?_
          refine W_join h (Ej := fun (x : Unit) => [(1, .v 0 (.int .i64) p1), (2, .box 0 T_api_State p0), (8, .v 9 (.slice (.int .i64)) x8)]) (p := fun x => l17_LiveTells_j3 p0 p1 x8) ?_ ?_
          · rintro ⟨⟩ h
            replace h : Leads _ (l17_LiveTells_j3 p0 p1 x8) := h
            unfold l17_LiveTells_j3 at h
            show W _ _ _ _ _ _ [(1, .v 0 (.int .i64) p1), (2, .box 0 T_api_State p0), (8, .v 9 (.slice (.int .i64)) x8)]
            refine W_seq ?_
            obtain ⟨y9, ey9, h⟩ := h.bind
            obtain ⟨y10, ey10, h⟩ := h.bind
            obtain ⟨y11, ey11, h⟩ := h.bind
            obtain ⟨y12, ey12, h⟩ := h.bind
            obtain ⟨y13, ey13, h⟩ := h.bind
            obtain ⟨y14, ey14, h⟩ := h.bind
            refine W_region mixed tys_ok (sup := [.res [(0, ⟨0, .bool, y9⟩)], .res [(0, ⟨0, .bool, y10⟩)], .res [(0, ⟨0, .int .i64, y11⟩)], .res [(0, ⟨9, .slice (.int .i64), y12⟩)], .res [(0, ⟨0, .bool, y13⟩)], .res [(0, ⟨0, .bool, y14⟩)]]) (l := [(4, 0)]) (E' := [(4, .v 0 .bool (((y9 == (y10 && (decide (y11 > (0 : Int))))) && y13) && y14))]) (obs := [ACall prog 74 [⟨T_api_State, p0⟩, ⟨.int .i64, p1⟩] [⟨0, .bool, y9⟩], ACall prog 40 [⟨T_api_State, p0⟩, ⟨.int .i64, p1⟩] [⟨0, .bool, y10⟩], y10 = true → ACall prog 73 [⟨T_api_State, p0⟩, ⟨.int .i64, p1⟩] [⟨0, .int .i64, y11⟩], (y9 == (y10 && (decide (y11 > (0 : Int))))) = true → ACall prog 75 [⟨T_api_State, p0⟩] [⟨9, .slice (.int .i64), y12⟩], (y9 == (y10 && (decide (y11 > (0 : Int))))) = true → ACall prog 22 [⟨.slice (.int .i64), y12⟩, ⟨.slice (.int .i64), x8⟩] [⟨0, .bool, y13⟩], ((y9 == (y10 && (decide (y11 > (0 : Int))))) && y13) = true → ACall prog 68 [] [⟨0, .bool, y14⟩]]) (by kernel_rfl) (⟨live_Awake.ok ey9, r14_Coin.ok ey10, fun hc => r17_Amount.ok (bif_some ey11 hc), fun hc => live_Dead.ok (bif_some ey12 hc), fun hc => r11_Ints.ok (bif_some ey13 hc), fun hc => l17_alive.ok (bif_some ey14 hc)⟩) ?_
            refine W_gen (x := ((y9 == (y10 && (decide (y11 > (0 : Int))))) && y13) && y14) (En := fun x15 => [(4, .v 0 .bool x15)]) h (fun x15 h => ?_)
            refine W_keep (l := [(4, 0)]) (E' := [(4, .v 0 .bool x15)]) (by kernel_rfl) ?_
            replace h : x15 = r := h
            subst h
            exact W_ret tys_ok hw0 (by kernel_rfl) (by kernel_rfl)
          · intro j3
            refine W_block ?_
            refine W_keep (l := [(1, 0), (2, 0), (7, 9), (8, 9), (11, 0)]) (E' := [(1, .v 0 (.int .i64) p1), (2, .box 0 T_api_State p0), (7, .v 9 (.slice .bool) y7), (8, .v 9 (.slice (.int .i64)) x8), (11, .v 0 (.int .i64) (0 : Int))]) (by kernel_rfl) ?_
            refine W_loop' (En := fun (x : Int) => [(1, .v 0 (.int .i64) p1), (2, .box 0 T_api_State p0), (7, .v 9 (.slice .bool) y7), (8, .v 9 (.slice (.int .i64)) x8), (11, .v 0 (.int .i64) x)]) (x := (0 : Int)) h ?_
            rintro x16 K h
            replace h : Leads _ (l17_LiveTells_b1 p0 p1 y7 x8 x16) := h
            unfold l17_LiveTells_b1 at h
            show W _ _ _ _ _ _ [(1, .v 0 (.int .i64) p1), (2, .box 0 T_api_State p0), (7, .v 9 (.slice .bool) y7), (8, .v 9 (.slice (.int .i64)) x8), (11, .v 0 (.int .i64) x16)]
            refine W_seq ?_
            refine W_seq ?_
            refine W_region mixed tys_ok (sup := []) (l := [(1, 0), (2, 0), (7, 9), (8, 9), (11, 0), (102, 0)]) (E' := [(1, .v 0 (.int .i64) p1), (2, .box 0 T_api_State p0), (7, .v 9 (.slice .bool) y7), (8, .v 9 (.slice (.int .i64)) x8), (11, .v 0 (.int .i64) x16), (102, .v 0 .bool (decide (x16 < (y7.length : Int))))]) (obs := []) (by kernel_rfl) (trivial) ?_
            refine W_cond (β := decide (x16 < (y7.length : Int))) (by kernel_rfl) (fun hb => ?_) (fun hb => ?_)
            · rw [hb] at h; rw [cond_true] at h
              refine W_skip ?_
              refine W_seq ?_
              refine W_block ?_
              refine W_seq ?_
              obtain ⟨o1, h⟩ := h.ass
              obtain ⟨y17, ey17, h⟩ := h.bind
              refine W_region mixed tys_ok (sup := [.res [(0, ⟨0, .bool, y17⟩)]]) (l := [(1, 0), (2, 0), (7, 9), (8, 9), (11, 0), (112, 0)]) (E' := [(1, .v 0 (.int .i64) p1), (2, .box 0 T_api_State p0), (7, .v 9 (.slice .bool) y7), (8, .v 9 (.slice (.int .i64)) x8), (11, .v 0 (.int .i64) x16), (112, .v 0 .bool ((rd false y7 x16) != y17))]) (obs := [0 ≤ x16 ∧ x16 < (y7.length : Int), ACall prog 25 [⟨T_api_State, p0⟩, ⟨.int .i64, x16⟩] [⟨0, .bool, y17⟩]]) (by kernel_rfl) (⟨o1, r16_Lives.ok ey17⟩) ?_
              refine W_cond (β := (rd false y7 x16) != y17) (by kernel_rfl) (fun hb => ?_) (fun hb => ?_)
              · rw [hb] at h; rw [cond_true] at h
                refine W_seq ?_
                refine W_region mixed tys_ok (sup := []) (l := [(4, 0)]) (E' := [(4, .v 0 .bool false)]) (obs := []) (by kernel_rfl) (trivial) ?_
                refine W_keep (l := [(4, 0)]) (E' := [(4, .v 0 .bool false)]) (by kernel_rfl) ?_
                replace h : false = r := h
                subst h
                exact W_ret tys_ok hw0 (by kernel_rfl) (by kernel_rfl)
              · rw [hb] at h; rw [cond_false] at h
                refine W_skip ?_
                refine W_blk ?_
                refine W_region mixed tys_ok (sup := []) (l := [(1, 0), (2, 0), (7, 9), (8, 9), (11, 0)]) (E' := [(1, .v 0 (.int .i64) p1), (2, .box 0 T_api_State p0), (7, .v 9 (.slice .bool) y7), (8, .v 9 (.slice (.int .i64)) x8), (11, .v 0 (.int .i64) (IntKind.i64.wrap (x16 + (1 : Int))))]) (obs := []) (by kernel_rfl) (trivial) ?_
                refine W_gen (x := IntKind.i64.wrap (x16 + (1 : Int))) (En := fun x18 => [(1, .v 0 (.int .i64) p1), (2, .box 0 T_api_State p0), (7, .v 9 (.slice .bool) y7), (8, .v 9 (.slice (.int .i64)) x8), (11, .v 0 (.int .i64) x18)]) h (fun x18 h => ?_)
                refine W_keep (l := [(1, 0), (2, 0), (7, 9), (8, 9), (11, 0)]) (E' := [(1, .v 0 (.int .i64) p1), (2, .box 0 T_api_State p0), (7, .v 9 (.slice .bool) y7), (8, .v 9 (.slice (.int .i64)) x8), (11, .v 0 (.int .i64) x18)]) (by kernel_rfl) ?_
                exact W_abs h
            · rw [hb] at h; rw [cond_false] at h
              refine W_exit rfl ?_
              refine W_keep (l := [(1, 0), (2, 0), (8, 9)]) (E' := [(1, .v 0 (.int .i64) p1), (2, .box 0 T_api_State p0), (8, .v 9 (.slice (.int .i64)) x8)]) (by kernel_rfl) ?_
              exact j3 () h.back
        · intro j2
          refine W_block ?_
          refine W_keep (l := [(1, 0), (2, 0), (6, 0), (7, 9), (8, 9), (10, 0)]) (E' := [(1, .v 0 (.int .i64) p1), (2, .box 0 T_api_State p0), (6, .v 0 (.slice (.int .i64)) y6), (7, .v 9 (.slice .bool) y7), (8, .v 9 (.slice (.int .i64)) x8), (10, .v 0 (.int .i64) (0 : Int))]) (by kernel_rfl) ?_
          refine W_loop' (En := fun (x : Int) => [(1, .v 0 (.int .i64) p1), (2, .box 0 T_api_State p0), (6, .v 0 (.slice (.int .i64)) y6), (7, .v 9 (.slice .bool) y7), (8, .v 9 (.slice (.int .i64)) x8), (10, .v 0 (.int .i64) x)]) (x := (0 : Int)) h ?_
          rintro x19 K h
          replace h : Leads _ (l17_LiveTells_b2 p0 p1 y6 y7 x8 x19) := h
          unfold l17_LiveTells_b2 at h
          show W _ _ _ _ _ _ [(1, .v 0 (.int .i64) p1), (2, .box 0 T_api_State p0), (6, .v 0 (.slice (.int .i64)) y6), (7, .v 9 (.slice .bool) y7), (8, .v 9 (.slice (.int .i64)) x8), (10, .v 0 (.int .i64) x19)]
          refine W_seq ?_
          refine W_seq ?_
          refine W_region mixed tys_ok (sup := []) (l := [(1, 0), (2, 0), (6, 0), (7, 9), (8, 9), (10, 0), (88, 0)]) (E' := [(1, .v 0 (.int .i64) p1), (2, .box 0 T_api_State p0), (6, .v 0 (.slice (.int .i64)) y6), (7, .v 9 (.slice .bool) y7), (8, .v 9 (.slice (.int .i64)) x8), (10, .v 0 (.int .i64) x19), (88, .v 0 .bool (decide (x19 < (y6.length : Int))))]) (obs := []) (by kernel_rfl) (trivial) ?_
          refine W_cond (β := decide (x19 < (y6.length : Int))) (by kernel_rfl) (fun hb => ?_) (fun hb => ?_)
          · rw [hb] at h; rw [cond_true] at h
            refine W_skip ?_
            refine W_seq ?_
            refine W_block ?_
            refine W_seq ?_
            obtain ⟨o1, h⟩ := h.ass
            obtain ⟨y20, ey20, h⟩ := h.bind
            refine W_region mixed tys_ok (sup := [.res [(0, ⟨0, .int .i64, y20⟩)]]) (l := [(1, 0), (2, 0), (6, 0), (7, 9), (8, 9), (10, 0), (98, 0)]) (E' := [(1, .v 0 (.int .i64) p1), (2, .box 0 T_api_State p0), (6, .v 0 (.slice (.int .i64)) y6), (7, .v 9 (.slice .bool) y7), (8, .v 9 (.slice (.int .i64)) x8), (10, .v 0 (.int .i64) x19), (98, .v 0 .bool ((rd (0 : Int) y6 x19) != y20))]) (obs := [0 ≤ x19 ∧ x19 < (y6.length : Int), ACall prog 73 [⟨T_api_State, p0⟩, ⟨.int .i64, x19⟩] [⟨0, .int .i64, y20⟩]]) (by kernel_rfl) (⟨o1, r17_Amount.ok ey20⟩) ?_
            refine W_cond (β := (rd (0 : Int) y6 x19) != y20) (by kernel_rfl) (fun hb => ?_) (fun hb => ?_)
            · rw [hb] at h; rw [cond_true] at h
              refine W_seq ?_
              refine W_region mixed tys_ok (sup := []) (l := [(4, 0)]) (E' := [(4, .v 0 .bool false)]) (obs := []) (by kernel_rfl) (trivial) ?_
              refine W_keep (l := [(4, 0)]) (E' := [(4, .v 0 .bool false)]) (by kernel_rfl) ?_
              replace h : false = r := h
              subst h
              exact W_ret tys_ok hw0 (by kernel_rfl) (by kernel_rfl)
            · rw [hb] at h; rw [cond_false] at h
              refine W_skip ?_
              refine W_blk ?_
              refine W_region mixed tys_ok (sup := []) (l := [(1, 0), (2, 0), (6, 0), (7, 9), (8, 9), (10, 0)]) (E' := [(1, .v 0 (.int .i64) p1), (2, .box 0 T_api_State p0), (6, .v 0 (.slice (.int .i64)) y6), (7, .v 9 (.slice .bool) y7), (8, .v 9 (.slice (.int .i64)) x8), (10, .v 0 (.int .i64) (IntKind.i64.wrap (x19 + (1 : Int))))]) (obs := []) (by kernel_rfl) (trivial) ?_
              refine W_gen (x := IntKind.i64.wrap (x19 + (1 : Int))) (En := fun x21 => [(1, .v 0 (.int .i64) p1), (2, .box 0 T_api_State p0), (6, .v 0 (.slice (.int .i64)) y6), (7, .v 9 (.slice .bool) y7), (8, .v 9 (.slice (.int .i64)) x8), (10, .v 0 (.int .i64) x21)]) h (fun x21 h => ?_)
              refine W_keep (l := [(1, 0), (2, 0), (6, 0), (7, 9), (8, 9), (10, 0)]) (E' := [(1, .v 0 (.int .i64) p1), (2, .box 0 T_api_State p0), (6, .v 0 (.slice (.int .i64)) y6), (7, .v 9 (.slice .bool) y7), (8, .v 9 (.slice (.int .i64)) x8), (10, .v 0 (.int .i64) x21)]) (by kernel_rfl) ?_
              exact W_abs h
          · rw [hb] at h; rw [cond_false] at h
            refine W_exit rfl ?_
            refine W_keep (l := [(1, 0), (2, 0), (7, 9), (8, 9)]) (E' := [(1, .v 0 (.int .i64) p1), (2, .box 0 T_api_State p0), (7, .v 9 (.slice .bool) y7), (8, .v 9 (.slice (.int .i64)) x8)]) (by kernel_rfl) ?_
            exact j2 () h.back
      · intro j1
        refine W_block ?_
        refine W_keep (l := [(1, 0), (2, 0), (5, 0), (6, 0), (7, 9), (8, 9), (9, 0)]) (E' := [(1, .v 0 (.int .i64) p1), (2, .box 0 T_api_State p0), (5, .v 0 (.slice .bool) y5), (6, .v 0 (.slice (.int .i64)) y6), (7, .v 9 (.slice .bool) y7), (8, .v 9 (.slice (.int .i64)) ([] : List Int)), (9, .v 0 (.int .i64) (0 : Int))]) (by kernel_rfl) ?_
        refine W_loop' (En := fun (x : (List Int) × Int) => [(1, .v 0 (.int .i64) p1), (2, .box 0 T_api_State p0), (5, .v 0 (.slice .bool) y5), (6, .v 0 (.slice (.int .i64)) y6), (7, .v 9 (.slice .bool) y7), (8, .v 9 (.slice (.int .i64)) x.1), (9, .v 0 (.int .i64) x.2)]) (x := (([] : List Int), (0 : Int))) h ?_
        rintro ⟨x22, x23⟩ K h
        replace h : Leads _ (l17_LiveTells_b3 p0 p1 y5 y6 y7 x22 x23) := h
        unfold l17_LiveTells_b3 at h
        show W _ _ _ _ _ _ [(1, .v 0 (.int .i64) p1), (2, .box 0 T_api_State p0), (5, .v 0 (.slice .bool) y5), (6, .v 0 (.slice (.int .i64)) y6), (7, .v 9 (.slice .bool) y7), (8, .v 9 (.slice (.int .i64)) x22), (9, .v 0 (.int .i64) x23)]
        refine W_seq ?_
        refine W_seq ?_
        refine W_region mixed tys_ok (sup := []) (l := [(1, 0), (2, 0), (5, 0), (6, 0), (7, 9), (8, 9), (9, 0), (57, 0)]) (E' := [(1, .v 0 (.int .i64) p1), (2, .box 0 T_api_State p0), (5, .v 0 (.slice .bool) y5), (6, .v 0 (.slice (.int .i64)) y6), (7, .v 9 (.slice .bool) y7), (8, .v 9 (.slice (.int .i64)) x22), (9, .v 0 (.int .i64) x23), (57, .v 0 .bool (decide (x23 < (y5.length : Int))))]) (obs := []) (by kernel_rfl) (trivial) ?_
        refine W_cond (β := decide (x23 < (y5.length : Int))) (by kernel_rfl) (fun hb => ?_) (fun hb => ?_)
        · rw [hb] at h; rw [cond_true] at h
          refine W_skip ?_
          refine W_seq ?_
          refine W_block ?_
          refine W_seq ?_
          refine W_seq ?_
          obtain ⟨o1, h⟩ := h.ass
          obtain ⟨y24, ey24, h⟩ := h.bind
          refine W_region mixed tys_ok (sup := [.res [(0, ⟨0, .bool, y24⟩)]]) (l := [(1, 0), (2, 0), (5, 0), (6, 0), (7, 9), (8, 9), (9, 0), (67, 0)]) (E' := [(1, .v 0 (.int .i64) p1), (2, .box 0 T_api_State p0), (5, .v 0 (.slice .bool) y5), (6, .v 0 (.slice (.int .i64)) y6), (7, .v 9 (.slice .bool) y7), (8, .v 9 (.slice (.int .i64)) x22), (9, .v 0 (.int .i64) x23), (67, .v 0 .bool ((rd false y5 x23) != y24))]) (obs := [0 ≤ x23 ∧ x23 < (y5.length : Int), ACall prog 72 [⟨T_api_State, p0⟩, ⟨.int .i64, x23⟩] [⟨0, .bool, y24⟩]]) (by kernel_rfl) (⟨o1, r17_Counts.ok ey24⟩) ?_
          refine W_cond (β := (rd false y5 x23) != y24) (by kernel_rfl) (fun hb => ?_) (fun hb => ?_)
          · rw [hb] at h; rw [cond_true] at h
            refine W_seq ?_
            refine W_region mixed tys_ok (sup := []) (l := [(4, 0)]) (E' := [(4, .v 0 .bool false)]) (obs := []) (by kernel_rfl) (trivial) ?_
            refine W_keep (l := [(4, 0)]) (E' := [(4, .v 0 .bool false)]) (by kernel_rfl) ?_
            replace h : false = r := h
            subst h
            exact W_ret tys_ok hw0 (by kernel_rfl) (by kernel_rfl)
          · rw [hb] at h; rw [cond_false] at h
            refine W_skip ?_
            refine W_seq ?_
            obtain ⟨o1, h⟩ := h.ass
            obtain ⟨o2, h⟩ := h.ass
            refine W_region mixed tys_ok (sup := []) (l := [(1, 0), (2, 0), (5, 0), (6, 0), (7, 9), (8, 9), (9, 0), (80, 0)]) (E' := [(1, .v 0 (.int .i64) p1), (2, .box 0 T_api_State p0), (5, .v 0 (.slice .bool) y5), (6, .v 0 (.slice (.int .i64)) y6), (7, .v 9 (.slice .bool) y7), (8, .v 9 (.slice (.int .i64)) x22), (9, .v 0 (.int .i64) x23), (80, .v 0 .bool ((rd z_api_Ticket p0.2.1 x23).1 && (!(rd false y5 x23))))]) (obs := [0 ≤ x23 ∧ x23 < (p0.2.1.length : Int), (rd z_api_Ticket p0.2.1 x23).1 = true → 0 ≤ x23 ∧ x23 < (y5.length : Int)]) (by kernel_rfl) (⟨o1, o2⟩) ?_
            refine W_join h (Ej := fun (x : List Int) => [(1, .v 0 (.int .i64) p1), (2, .box 0 T_api_State p0), (5, .v 0 (.slice .bool) y5), (6, .v 0 (.slice (.int .i64)) y6), (7, .v 9 (.slice .bool) y7), (8, .v 9 (.slice (.int .i64)) x), (9, .v 0 (.int .i64) x23)]) (p := fun x => l17_LiveTells_j4 x23 x) ?_ ?_
            · rintro x25 h
              replace h : Leads _ (l17_LiveTells_j4 x23 x25) := h
              unfold l17_LiveTells_j4 at h
              show W _ _ _ _ _ _ [(1, .v 0 (.int .i64) p1), (2, .box 0 T_api_State p0), (5, .v 0 (.slice .bool) y5), (6, .v 0 (.slice (.int .i64)) y6), (7, .v 9 (.slice .bool) y7), (8, .v 9 (.slice (.int .i64)) x25), (9, .v 0 (.int .i64) x23)]
              refine W_blk ?_
              refine W_region mixed tys_ok (sup := []) (l := [(1, 0), (2, 0), (5, 0), (6, 0), (7, 9), (8, 9), (9, 0)]) (E' := [(1, .v 0 (.int .i64) p1), (2, .box 0 T_api_State p0), (5, .v 0 (.slice .bool) y5), (6, .v 0 (.slice (.int .i64)) y6), (7, .v 9 (.slice .bool) y7), (8, .v 9 (.slice (.int .i64)) x25), (9, .v 0 (.int .i64) (IntKind.i64.wrap (x23 + (1 : Int))))]) (obs := []) (by kernel_rfl) (trivial) ?_
              refine W_gen (x := IntKind.i64.wrap (x23 + (1 : Int))) (En := fun x26 => [(1, .v 0 (.int .i64) p1), (2, .box 0 T_api_State p0), (5, .v 0 (.slice .bool) y5), (6, .v 0 (.slice (.int .i64)) y6), (7, .v 9 (.slice .bool) y7), (8, .v 9 (.slice (.int .i64)) x25), (9, .v 0 (.int .i64) x26)]) h (fun x26 h => ?_)
              refine W_keep (l := [(1, 0), (2, 0), (5, 0), (6, 0), (7, 9), (8, 9), (9, 0)]) (E' := [(1, .v 0 (.int .i64) p1), (2, .box 0 T_api_State p0), (5, .v 0 (.slice .bool) y5), (6, .v 0 (.slice (.int .i64)) y6), (7, .v 9 (.slice .bool) y7), (8, .v 9 (.slice (.int .i64)) x25), (9, .v 0 (.int .i64) x26)]) (by kernel_rfl) ?_
              exact W_abs h
            · intro j4
              refine W_cond (β := (rd z_api_Ticket p0.2.1 x23).1 && (!(rd false y5 x23))) (by kernel_rfl) (fun hb => ?_) (fun hb => ?_)
              · rw [hb] at h; rw [cond_true] at h
                obtain ⟨o1, h⟩ := h.ass
                refine W_region mixed tys_ok (sup := []) (l := [(1, 0), (2, 0), (5, 0), (6, 0), (7, 9), (8, 9), (9, 0)]) (E' := [(1, .v 0 (.int .i64) p1), (2, .box 0 T_api_State p0), (5, .v 0 (.slice .bool) y5), (6, .v 0 (.slice (.int .i64)) y6), (7, .v 9 (.slice .bool) y7), (8, .v 9 (.slice (.int .i64)) (x22 ++ [x23])), (9, .v 0 (.int .i64) x23)]) (obs := [((x22.length + [x23].length : Nat) : Int) ≤ limA]) (by kernel_rfl) (o1) ?_
                refine W_gen (x := x22 ++ [x23]) (En := fun x27 => [(1, .v 0 (.int .i64) p1), (2, .box 0 T_api_State p0), (5, .v 0 (.slice .bool) y5), (6, .v 0 (.slice (.int .i64)) y6), (7, .v 9 (.slice .bool) y7), (8, .v 9 (.slice (.int .i64)) x27), (9, .v 0 (.int .i64) x23)]) h (fun x27 h => ?_)
                refine W_keep (l := [(1, 0), (2, 0), (5, 0), (6, 0), (7, 9), (8, 9), (9, 0)]) (E' := [(1, .v 0 (.int .i64) p1), (2, .box 0 T_api_State p0), (5, .v 0 (.slice .bool) y5), (6, .v 0 (.slice (.int .i64)) y6), (7, .v 9 (.slice .bool) y7), (8, .v 9 (.slice (.int .i64)) x27), (9, .v 0 (.int .i64) x23)]) (by kernel_rfl) ?_
                exact j4 x27 h
              · rw [hb] at h; rw [cond_false] at h
                refine W_skip ?_
                refine W_keep (l := [(1, 0), (2, 0), (5, 0), (6, 0), (7, 9), (8, 9), (9, 0)]) (E' := [(1, .v 0 (.int .i64) p1), (2, .box 0 T_api_State p0), (5, .v 0 (.slice .bool) y5), (6, .v 0 (.slice (.int .i64)) y6), (7, .v 9 (.slice .bool) y7), (8, .v 9 (.slice (.int .i64)) x22), (9, .v 0 (.int .i64) x23)]) (by kernel_rfl) ?_
                exact j4 x22 h
        · rw [hb] at h; rw [cond_false] at h
          refine W_exit rfl ?_
          refine W_keep (l := [(1, 0), (2, 0), (6, 0), (7, 9), (8, 9)]) (E' := [(1, .v 0 (.int .i64) p1), (2, .box 0 T_api_State p0), (6, .v 0 (.slice (.int .i64)) y6), (7, .v 9 (.slice .bool) y7), (8, .v 9 (.slice (.int .i64)) x22)]) (by kernel_rfl) ?_
          exact j1 x22 h.back

noncomputable def chain_those_j1 (x1 : List Int) : Option (List Int) :=
  some x1
noncomputable def chain_those_j2 (x3 : Int) (x6 : List Int) : Option (((List Int) × Int) ⊕ (List Int)) :=
  bnd (IntKind.i64.wrap (x3 + (1 : Int))) fun x7 =>
  some (.inl (x6, x7))
noncomputable def chain_those_b1 (p0 : D_api_State) (p1 : Int → Option Bool) (x2 : List Int) (x3 : Int) : Option (((List Int) × Int) ⊕ (List Int)) :=
  bif decide (x3 < (p0.2.2.1.length : Int)) then
    ass (0 ≤ x3 ∧ x3 < (p0.2.2.1.length : Int)) <|
    bnd (rd z_api_Thread p0.2.2.1 x3) fun x4 =>
    (bif x4.1 != (0 : Int) then p1 x3 else some false).bind fun y5 =>
    bif (x4.1 != (0 : Int)) && y5 then
      ass (((x2.length + [x3].length : Nat) : Int) ≤ limA) <|
      bnd (x2 ++ [x3]) fun x8 =>
      chain_those_j2 x3 x8
    else
      chain_those_j2 x3 x2
  else
    (chain_those_j1 x2).map .inr
noncomputable def chain_those (p0 : D_api_State) (p1 : Int → Option Bool) : Option (List Int) :=
  loopM (fun x : (List Int) × Int => chain_those_b1 p0 p1 x.1 x.2) (([] : List Int), (0 : Int))
theorem chain_those.ok {p0 : D_api_State} {p1 : Int → Option Bool} {r : List Int} (h : chain_those p0 p1 = some r) : ACall prog 86 [⟨T_api_State, p0⟩, ⟨.fn (.int .i64) .bool, p1⟩] [⟨9, .slice (.int .i64), r⟩] := by
  replace h := Leads.of h
  unfold chain_those at h
  refine acall_of func86 (by kernel_rfl) rfl (by kernel_rfl) fun w0 F0 hw0 => ?_
  refine W_seq ?_
  refine W_region mixed tys_ok (sup := []) (l := [(1, 0), (2, 0), (4, 9)]) (E' := [(1, .v 0 (.fn (.int .i64) .bool) p1), (2, .box 0 T_api_State p0), (4, .v 9 (.slice (.int .i64)) ([] : List Int))]) (obs := []) (by kernel_rfl) (trivial) ?_
  refine W_seq ?_
  refine W_seq ?_
  refine W_region mixed tys_ok (sup := []) (l := [(1, 0), (4, 9), (8, 0), (9, 0), (10, 0)]) (E' := [(1, .v 0 (.fn (.int .i64) .bool) p1), (4, .v 9 (.slice (.int .i64)) ([] : List Int)), (8, .v 0 (.slice T_api_Thread) p0.2.2.1), (9, .v 0 (.int .i64) (p0.2.2.1.length : Int)), (10, .v 0 (.int .i64) (0 : Int))]) (obs := []) (by kernel_rfl) (trivial) ?_
  refine W_join h (Ej := fun (x : List Int) => [(4, .v 9 (.slice (.int .i64)) x)]) (p := fun x => chain_those_j1 x) ?_ ?_
  · rintro x1 h
    replace h : Leads _ (chain_those_j1 x1) := h
    unfold chain_those_j1 at h
    show W _ _ _ _ _ _ [(4, .v 9 (.slice (.int .i64)) x1)]
    refine W_seq ?_
    refine W_region mixed tys_ok (sup := []) (l := [(4, 9)]) (E' := [(4, .v 9 (.slice (.int .i64)) x1)]) (obs := []) (by kernel_rfl) (trivial) ?_
    refine W_keep (l := [(4, 9)]) (E' := [(4, .v 9 (.slice (.int .i64)) x1)]) (by kernel_rfl) ?_
    replace h : x1 = r := h
    subst h
    exact W_ret tys_ok hw0 (by kernel_rfl) (by kernel_rfl)
  · intro j1
    refine W_block ?_
    refine W_keep (l := [(1, 0), (4, 9), (8, 0), (9, 0), (10, 0)]) (E' := [(1, .v 0 (.fn (.int .i64) .bool) p1), (4, .v 9 (.slice (.int .i64)) ([] : List Int)), (8, .v 0 (.slice T_api_Thread) p0.2.2.1), (9, .v 0 (.int .i64) (p0.2.2.1.length : Int)), (10, .v 0 (.int .i64) (0 : Int))]) (by kernel_rfl) ?_
    refine W_loop' (En := fun (x : (List Int) × Int) => [(1, .v 0 (.fn (.int .i64) .bool) p1), (4, .v 9 (.slice (.int .i64)) x.1), (8, .v 0 (.slice T_api_Thread) p0.2.2.1), (9, .v 0 (.int .i64) (p0.2.2.1.length : Int)), (10, .v 0 (.int .i64) x.2)]) (x := (([] : List Int), (0 : Int))) h ?_
    rintro ⟨x2, x3⟩ K h
    replace h : Leads _ (chain_those_b1 p0 p1 x2 x3) := h
    unfold chain_those_b1 at h
    show W _ _ _ _ _ _ [(1, .v 0 (.fn (.int .i64) .bool) p1), (4, .v 9 (.slice (.int .i64)) x2), (8, .v 0 (.slice T_api_Thread) p0.2.2.1), (9, .v 0 (.int .i64) (p0.2.2.1.length : Int)), (10, .v 0 (.int .i64) x3)]
    refine W_seq ?_
    refine W_region mixed tys_ok (sup := []) (l := [(1, 0), (4, 9), (8, 0), (9, 0), (10, 0), (11, 0)]) (E' := [(1, .v 0 (.fn (.int .i64) .bool) p1), (4, .v 9 (.slice (.int .i64)) x2), (8, .v 0 (.slice T_api_Thread) p0.2.2.1), (9, .v 0 (.int .i64) (p0.2.2.1.length : Int)), (10, .v 0 (.int .i64) x3), (11, .v 0 .bool (decide (x3 < (p0.2.2.1.length : Int))))]) (obs := []) (by kernel_rfl) (trivial) ?_
    refine W_seq ?_
    refine W_cond (β := decide (x3 < (p0.2.2.1.length : Int))) (by kernel_rfl) (fun hb => ?_) (fun hb => ?_)
    · rw [hb] at h; rw [cond_true] at h
      refine W_skip ?_
      refine W_seq ?_
      refine W_block ?_
      refine W_seq ?_
      obtain ⟨o1, h⟩ := h.ass
      refine W_region mixed tys_ok (sup := []) (l := [(1, 0), (4, 9), (5, 0), (6, 9), (8, 0), (9, 0), (10, 0)]) (E' := [(1, .v 0 (.fn (.int .i64) .bool) p1), (4, .v 9 (.slice (.int .i64)) x2), (5, .v 0 (.int .i64) x3), (6, .box 9 T_api_Thread (rd z_api_Thread p0.2.2.1 x3)), (8, .v 0 (.slice T_api_Thread) p0.2.2.1), (9, .v 0 (.int .i64) (p0.2.2.1.length : Int)), (10, .v 0 (.int .i64) x3)]) (obs := [0 ≤ x3 ∧ x3 < (p0.2.2.1.length : Int)]) (by kernel_rfl) (o1) ?_
      refine W_gen (x := rd z_api_Thread p0.2.2.1 x3) (En := fun x4 => [(1, .v 0 (.fn (.int .i64) .bool) p1), (4, .v 9 (.slice (.int .i64)) x2), (5, .v 0 (.int .i64) x3), (6, .box 9 T_api_Thread x4), (8, .v 0 (.slice T_api_Thread) p0.2.2.1), (9, .v 0 (.int .i64) (p0.2.2.1.length : Int)), (10, .v 0 (.int .i64) x3)]) h (fun x4 h => ?_)
      refine W_seq ?_
      obtain ⟨y5, ey5, h⟩ := h.bind
      refine W_region mixed tys_ok (sup := [.res [(0, ⟨9, .bool, y5⟩)]]) (l := [(1, 0), (4, 9), (5, 0), (8, 0), (9, 0), (10, 0), (22, 0)]) (E' := [(1, .v 0 (.fn (.int .i64) .bool) p1), (4, .v 9 (.slice (.int .i64)) x2), (5, .v 0 (.int .i64) x3), (8, .v 0 (.slice T_api_Thread) p0.2.2.1), (9, .v 0 (.int .i64) (p0.2.2.1.length : Int)), (10, .v 0 (.int .i64) x3), (22, .v 0 .bool ((x4.1 != (0 : Int)) && y5))]) (obs := [(x4.1 != (0 : Int)) = true → p1 x3 = some y5]) (by kernel_rfl) (fun hc => bif_some ey5 hc) ?_
      refine W_join h (Ej := fun (x : List Int) => [(1, .v 0 (.fn (.int .i64) .bool) p1), (4, .v 9 (.slice (.int .i64)) x), (8, .v 0 (.slice T_api_Thread) p0.2.2.1), (9, .v 0 (.int .i64) (p0.2.2.1.length : Int)), (10, .v 0 (.int .i64) x3)]) (p := fun x => chain_those_j2 x3 x) ?_ ?_
      · rintro x6 h
        replace h : Leads _ (chain_those_j2 x3 x6) := h
        unfold chain_those_j2 at h
        show W _ _ _ _ _ _ [(1, .v 0 (.fn (.int .i64) .bool) p1), (4, .v 9 (.slice (.int .i64)) x6), (8, .v 0 (.slice T_api_Thread) p0.2.2.1), (9, .v 0 (.int .i64) (p0.2.2.1.length : Int)), (10, .v 0 (.int .i64) x3)]
        refine W_blk ?_
        refine W_region mixed tys_ok (sup := []) (l := [(1, 0), (4, 9), (8, 0), (9, 0), (10, 0)]) (E' := [(1, .v 0 (.fn (.int .i64) .bool) p1), (4, .v 9 (.slice (.int .i64)) x6), (8, .v 0 (.slice T_api_Thread) p0.2.2.1), (9, .v 0 (.int .i64) (p0.2.2.1.length : Int)), (10, .v 0 (.int .i64) (IntKind.i64.wrap (x3 + (1 : Int))))]) (obs := []) (by kernel_rfl) (trivial) ?_
        refine W_gen (x := IntKind.i64.wrap (x3 + (1 : Int))) (En := fun x7 => [(1, .v 0 (.fn (.int .i64) .bool) p1), (4, .v 9 (.slice (.int .i64)) x6), (8, .v 0 (.slice T_api_Thread) p0.2.2.1), (9, .v 0 (.int .i64) (p0.2.2.1.length : Int)), (10, .v 0 (.int .i64) x7)]) h (fun x7 h => ?_)
        refine W_keep (l := [(1, 0), (4, 9), (8, 0), (9, 0), (10, 0)]) (E' := [(1, .v 0 (.fn (.int .i64) .bool) p1), (4, .v 9 (.slice (.int .i64)) x6), (8, .v 0 (.slice T_api_Thread) p0.2.2.1), (9, .v 0 (.int .i64) (p0.2.2.1.length : Int)), (10, .v 0 (.int .i64) x7)]) (by kernel_rfl) ?_
        exact W_abs h
      · intro j2
        refine W_cond (β := (x4.1 != (0 : Int)) && y5) (by kernel_rfl) (fun hb => ?_) (fun hb => ?_)
        · rw [hb] at h; rw [cond_true] at h
          obtain ⟨o1, h⟩ := h.ass
          refine W_region mixed tys_ok (sup := []) (l := [(1, 0), (4, 9), (8, 0), (9, 0), (10, 0)]) (E' := [(1, .v 0 (.fn (.int .i64) .bool) p1), (4, .v 9 (.slice (.int .i64)) (x2 ++ [x3])), (8, .v 0 (.slice T_api_Thread) p0.2.2.1), (9, .v 0 (.int .i64) (p0.2.2.1.length : Int)), (10, .v 0 (.int .i64) x3)]) (obs := [((x2.length + [x3].length : Nat) : Int) ≤ limA]) (by kernel_rfl) (o1) ?_
          refine W_gen (x := x2 ++ [x3]) (En := fun x8 => [(1, .v 0 (.fn (.int .i64) .bool) p1), (4, .v 9 (.slice (.int .i64)) x8), (8, .v 0 (.slice T_api_Thread) p0.2.2.1), (9, .v 0 (.int .i64) (p0.2.2.1.length : Int)), (10, .v 0 (.int .i64) x3)]) h (fun x8 h => ?_)
          refine W_keep (l := [(1, 0), (4, 9), (8, 0), (9, 0), (10, 0)]) (E' := [(1, .v 0 (.fn (.int .i64) .bool) p1), (4, .v 9 (.slice (.int .i64)) x8), (8, .v 0 (.slice T_api_Thread) p0.2.2.1), (9, .v 0 (.int .i64) (p0.2.2.1.length : Int)), (10, .v 0 (.int .i64) x3)]) (by kernel_rfl) ?_
          exact j2 x8 h
        · rw [hb] at h; rw [cond_false] at h
          refine W_skip ?_
          refine W_keep (l := [(1, 0), (4, 9), (8, 0), (9, 0), (10, 0)]) (E' := [(1, .v 0 (.fn (.int .i64) .bool) p1), (4, .v 9 (.slice (.int .i64)) x2), (8, .v 0 (.slice T_api_Thread) p0.2.2.1), (9, .v 0 (.int .i64) (p0.2.2.1.length : Int)), (10, .v 0 (.int .i64) x3)]) (by kernel_rfl) ?_
          exact j2 x2 h
    · rw [hb] at h; rw [cond_false] at h
      refine W_exit rfl ?_
      refine W_keep (l := [(4, 9)]) (E' := [(4, .v 9 (.slice (.int .i64)) x2)]) (by kernel_rfl) ?_
      exact j1 x2 h.back

noncomputable def slices_Contains_int_int (p0 : List Int) (p1 : Int) : Option Bool :=
  (slices_Index_int_int p0 p1).bind fun y1 =>
  bnd (decide (y1 ≥ (0 : Int))) fun x2 =>
  some x2
theorem slices_Contains_int_int.ok {p0 : List Int} {p1 : Int} {r : Bool} (h : slices_Contains_int_int p0 p1 = some r) : ACall prog 88 [⟨.slice (.int .i64), p0⟩, ⟨.int .i64, p1⟩] [⟨0, .bool, r⟩] := by
  replace h := Leads.of h
  unfold slices_Contains_int_int at h
  refine acall_of func88 (by kernel_rfl) rfl (by kernel_rfl) fun w0 F0 hw0 => ?_
  refine W_seq ?_
  refine W_region mixed tys_ok (sup := []) (l := [(0, 0), (1, 0)]) (E' := [(0, .v 0 (.slice (.int .i64)) p0), (1, .v 0 (.int .i64) p1)]) (obs := []) (by kernel_rfl) (trivial) ?_
  refine W_seq ?_
  obtain ⟨y1, ey1, h⟩ := h.bind
  refine W_region mixed tys_ok (sup := [.res [(0, ⟨0, .int .i64, y1⟩)]]) (l := [(4, 0)]) (E' := [(4, .v 0 .bool (decide (y1 ≥ (0 : Int))))]) (obs := [ACall prog 92 [⟨.slice (.int .i64), p0⟩, ⟨.int .i64, p1⟩] [⟨0, .int .i64, y1⟩]]) (by kernel_rfl) (slices_Index_int_int.ok ey1) ?_
  refine W_gen (x := decide (y1 ≥ (0 : Int))) (En := fun x2 => [(4, .v 0 .bool x2)]) h (fun x2 h => ?_)
  refine W_keep (l := [(4, 0)]) (E' := [(4, .v 0 .bool x2)]) (by kernel_rfl) ?_
  replace h : x2 = r := h
  subst h
  exact W_ret tys_ok hw0 (by kernel_rfl) (by kernel_rfl)

noncomputable def chain_Behind_c1 (p0 : Int) (c0 : Int) (c1 : D_api_State) : Option Bool :=
  (bif p0 != c0 then chain_Tail c1 p0 else some ([] : List Int)).bind fun y1 =>
  (bif p0 != c0 then slices_Contains_int_int y1 c0 else some false).bind fun y2 =>
  bnd ((p0 != c0) && y2) fun x3 =>
  some x3
theorem chain_Behind_c1.ok {p0 : Int} {c0 : Int} {c1 : D_api_State} {r : Bool} (h : chain_Behind_c1 p0 c0 c1 = some r) : ACall prog 87 [⟨.int .i64, p0⟩, ⟨.cptr (.int .i64), c0⟩, ⟨.cptr T_api_State, c1⟩] [⟨0, .bool, r⟩] := by
  replace h := Leads.of h
  unfold chain_Behind_c1 at h
  refine acall_of func87 (by kernel_rfl) rfl (by kernel_rfl) fun w0 F0 hw0 => ?_
  refine W_seq ?_
  refine W_region mixed tys_ok (sup := []) (l := [(0, 0), (1, 0), (2, 0)]) (E' := [(0, .v 0 (.int .i64) p0), (1, .v 0 (.cptr (.int .i64)) c0), (2, .v 0 (.cptr T_api_State) c1)]) (obs := []) (by kernel_rfl) (trivial) ?_
  refine W_seq ?_
  obtain ⟨y1, ey1, h⟩ := h.bind
  obtain ⟨y2, ey2, h⟩ := h.bind
  refine W_region mixed tys_ok (sup := [.res [(0, ⟨9, .slice (.int .i64), y1⟩)], .res [(0, ⟨0, .bool, y2⟩)]]) (l := [(4, 0)]) (E' := [(4, .v 0 .bool ((p0 != c0) && y2))]) (obs := [(p0 != c0) = true → ACall prog 23 [⟨T_api_State, c1⟩, ⟨.int .i64, p0⟩] [⟨9, .slice (.int .i64), y1⟩], (p0 != c0) = true → ACall prog 88 [⟨.slice (.int .i64), y1⟩, ⟨.int .i64, c0⟩] [⟨0, .bool, y2⟩]]) (by kernel_rfl) (⟨fun hc => chain_Tail.ok (bif_some ey1 hc), fun hc => slices_Contains_int_int.ok (bif_some ey2 hc)⟩) ?_
  refine W_gen (x := (p0 != c0) && y2) (En := fun x3 => [(4, .v 0 .bool x3)]) h (fun x3 h => ?_)
  refine W_keep (l := [(4, 0)]) (E' := [(4, .v 0 .bool x3)]) (by kernel_rfl) ?_
  replace h : x3 = r := h
  subst h
  exact W_ret tys_ok hw0 (by kernel_rfl) (by kernel_rfl)

noncomputable def chain_Behind (p0 : D_api_State) (p1 : Int) : Option (List Int) :=
  (chain_those p0 (fun x => chain_Behind_c1 x p1 p0)).bind fun y1 =>
  some y1
theorem chain_Behind.ok {p0 : D_api_State} {p1 : Int} {r : List Int} (h : chain_Behind p0 p1 = some r) : ACall prog 17 [⟨T_api_State, p0⟩, ⟨.int .i64, p1⟩] [⟨9, .slice (.int .i64), r⟩] := by
  replace h := Leads.of h
  unfold chain_Behind at h
  refine acall_of func17 (by kernel_rfl) rfl (by kernel_rfl) fun w0 F0 hw0 => ?_
  refine W_seq ?_
  refine W_region mixed tys_ok (sup := []) (l := [(2, 0), (3, 9)]) (E' := [(2, .box 0 T_api_State p0), (3, .box 9 (.int .i64) p1)]) (obs := []) (by kernel_rfl) (trivial) ?_
  refine W_seq ?_
  obtain ⟨y1, ey1, h⟩ := h.bind
  refine W_region mixed tys_ok (sup := [.fn (.int .i64) .bool (fun x => chain_Behind_c1 x p1 p0), .res [(9, ⟨9, .slice (.int .i64), y1⟩)]]) (l := [(4, 9)]) (E' := [(4, .v 9 (.slice (.int .i64)) y1)]) (obs := [∀ x y, (fun x => chain_Behind_c1 x p1 p0) x = some y → ACall prog 87 (unprod (.int .i64) x ++ [⟨.cptr (.int .i64), p1⟩, ⟨.cptr T_api_State, p0⟩]) [⟨9, .bool, y⟩], ACall prog 86 [⟨T_api_State, p0⟩, ⟨.fn (.int .i64) .bool, fun x => chain_Behind_c1 x p1 p0⟩] [⟨9, .slice (.int .i64), y1⟩]]) (by kernel_rfl) (⟨fun x y e => ACall.flat rfl (chain_Behind_c1.ok e), chain_those.ok ey1⟩) ?_
  refine W_keep (l := [(4, 9)]) (E' := [(4, .v 9 (.slice (.int .i64)) y1)]) (by kernel_rfl) ?_
  replace h : y1 = r := h
  subst h
  exact W_ret tys_ok hw0 (by kernel_rfl) (by kernel_rfl)

noncomputable def chain_Closes (p0 : D_api_State) (p1 : Int) (p2 : Int) : Option Bool :=
  (state_Thread p0 p1).bind fun y1 =>
  (bif y1.2 then chain_Tail p0 p2 else some ([] : List Int)).bind fun y2 =>
  (bif y1.2 then slices_Contains_int_int y2 p1 else some false).bind fun y3 =>
  bnd (y1.2 && y3) fun x4 =>
  some x4
theorem chain_Closes.ok {p0 : D_api_State} {p1 : Int} {p2 : Int} {r : Bool} (h : chain_Closes p0 p1 p2 = some r) : ACall prog 19 [⟨T_api_State, p0⟩, ⟨.int .i64, p1⟩, ⟨.int .i64, p2⟩] [⟨0, .bool, r⟩] := by
  replace h := Leads.of h
  unfold chain_Closes at h
  refine acall_of func19 (by kernel_rfl) rfl (by kernel_rfl) fun w0 F0 hw0 => ?_
  refine W_seq ?_
  refine W_region mixed tys_ok (sup := []) (l := [(1, 0), (2, 0), (3, 0)]) (E' := [(1, .v 0 (.int .i64) p1), (2, .v 0 (.int .i64) p2), (3, .box 0 T_api_State p0)]) (obs := []) (by kernel_rfl) (trivial) ?_
  refine W_seq ?_
  obtain ⟨y1, ey1, h⟩ := h.bind
  refine W_region mixed tys_ok (sup := [.res [(0, ⟨0, T_api_Thread, y1.1⟩), (0, ⟨0, .bool, y1.2⟩)]]) (l := [(1, 0), (2, 0), (3, 0), (8, 0)]) (E' := [(1, .v 0 (.int .i64) p1), (2, .v 0 (.int .i64) p2), (3, .box 0 T_api_State p0), (8, .v 0 .bool y1.2)]) (obs := [ACall prog 84 [⟨T_api_State, p0⟩, ⟨.int .i64, p1⟩] [⟨0, T_api_Thread, y1.1⟩, ⟨0, .bool, y1.2⟩]]) (by kernel_rfl) (state_Thread.ok ey1) ?_
  refine W_seq ?_
  obtain ⟨y2, ey2, h⟩ := h.bind
  obtain ⟨y3, ey3, h⟩ := h.bind
  refine W_region mixed tys_ok (sup := [.res [(0, ⟨9, .slice (.int .i64), y2⟩)], .res [(0, ⟨0, .bool, y3⟩)]]) (l := [(6, 0)]) (E' := [(6, .v 0 .bool (y1.2 && y3))]) (obs := [y1.2 = true → ACall prog 23 [⟨T_api_State, p0⟩, ⟨.int .i64, p2⟩] [⟨9, .slice (.int .i64), y2⟩], y1.2 = true → ACall prog 88 [⟨.slice (.int .i64), y2⟩, ⟨.int .i64, p1⟩] [⟨0, .bool, y3⟩]]) (by kernel_rfl) (⟨fun hc => chain_Tail.ok (bif_some ey2 hc), fun hc => slices_Contains_int_int.ok (bif_some ey3 hc)⟩) ?_
  refine W_gen (x := y1.2 && y3) (En := fun x4 => [(6, .v 0 .bool x4)]) h (fun x4 h => ?_)
  refine W_keep (l := [(6, 0)]) (E' := [(6, .v 0 .bool x4)]) (by kernel_rfl) ?_
  replace h : x4 = r := h
  subst h
  exact W_ret tys_ok hw0 (by kernel_rfl) (by kernel_rfl)

noncomputable def l16_alive : Option Bool :=
  bnd (((2 : Int), (-1 : Int), (-1 : Int), (1 : Int), (1 : Int))) fun x1 =>
  bnd (((4 : Int), (0 : Int), (-1 : Int), (1 : Int), (1 : Int))) fun x2 =>
  bnd (([true], ([] : List D_api_Ticket), [x1, x2], ([] : List D_api_Lock), [(1 : Int)], (5 : Int))) fun x3 =>
  (chain_End x3 (1 : Int)).bind fun y4 =>
  (bif y4 == (0 : Int) then chain_Lives x3 (1 : Int) else some false).bind fun y5 =>
  (bif (y4 == (0 : Int)) && y5 then chain_Behind x3 (0 : Int) else some ([] : List Int)).bind fun y6 =>
  (bif (y4 == (0 : Int)) && y5 then r11_Ints y6 [(1 : Int)] else some false).bind fun y7 =>
  (bif ((y4 == (0 : Int)) && y5) && y7 then chain_Closes x3 (0 : Int) (1 : Int) else some false).bind fun y8 =>
  (bif (((y4 == (0 : Int)) && y5) && y7) && y8 then chain_Closes x3 (1 : Int) (0 : Int) else some false).bind fun y9 =>
  (bif ((((y4 == (0 : Int)) && y5) && y7) && y8) && (!y9) then chain_Next x3 (0 : Int) else some (0 : Int)).bind fun y10 =>
  bnd ((((((y4 == (0 : Int)) && y5) && y7) && y8) && (!y9)) && (y10 == (-1 : Int))) fun x11 =>
  some x11
theorem l16_alive.ok {r : Bool} (h : l16_alive = some r) : ACall prog 14 [] [⟨0, .bool, r⟩] := by
  replace h := Leads.of h
  unfold l16_alive at h
  refine acall_of func14 (by kernel_rfl) rfl (by kernel_rfl) fun w0 F0 hw0 => ?_
  refine W_seq ?_
  refine W_region mixed tys_ok (sup := []) (l := []) (E' := []) (obs := []) (by kernel_rfl) (trivial) ?_
  refine W_seq ?_
  refine W_region mixed tys_ok (sup := []) (l := [(1, 9)]) (E' := [(1, .box 9 T_api_Thread ((2 : Int), (-1 : Int), (-1 : Int), (1 : Int), (1 : Int)))]) (obs := []) (by kernel_rfl) (trivial) ?_
  refine W_gen (x := ((2 : Int), (-1 : Int), (-1 : Int), (1 : Int), (1 : Int))) (En := fun x1 => [(1, .box 9 T_api_Thread x1)]) h (fun x1 h => ?_)
  refine W_seq ?_
  refine W_region mixed tys_ok (sup := []) (l := [(1, 9), (2, 9)]) (E' := [(1, .box 9 T_api_Thread x1), (2, .box 9 T_api_Thread ((4 : Int), (0 : Int), (-1 : Int), (1 : Int), (1 : Int)))]) (obs := []) (by kernel_rfl) (trivial) ?_
  refine W_gen (x := ((4 : Int), (0 : Int), (-1 : Int), (1 : Int), (1 : Int))) (En := fun x2 => [(1, .box 9 T_api_Thread x1), (2, .box 9 T_api_Thread x2)]) h (fun x2 h => ?_)
  refine W_seq ?_
  refine W_region mixed tys_ok (sup := [.frz, .frz, .frz]) (l := [(3, 0)]) (E' := [(3, .box 0 T_api_State ([true], ([] : List D_api_Ticket), [x1, x2], ([] : List D_api_Lock), [(1 : Int)], (5 : Int)))]) (obs := []) (by kernel_rfl) (trivial) ?_
  refine W_gen (x := ([true], ([] : List D_api_Ticket), [x1, x2], ([] : List D_api_Lock), [(1 : Int)], (5 : Int))) (En := fun x3 => [(3, .box 0 T_api_State x3)]) h (fun x3 h => ?_)
  refine W_seq ?_
  obtain ⟨y4, ey4, h⟩ := h.bind
  obtain ⟨y5, ey5, h⟩ := h.bind
  obtain ⟨y6, ey6, h⟩ := h.bind
  obtain ⟨y7, ey7, h⟩ := h.bind
  obtain ⟨y8, ey8, h⟩ := h.bind
  obtain ⟨y9, ey9, h⟩ := h.bind
  obtain ⟨y10, ey10, h⟩ := h.bind
  refine W_region mixed tys_ok (sup := [.res [(0, ⟨0, .int .i64, y4⟩)], .res [(0, ⟨0, .bool, y5⟩)], .res [(0, ⟨9, .slice (.int .i64), y6⟩)], .res [(0, ⟨0, .bool, y7⟩)], .res [(0, ⟨0, .bool, y8⟩)], .res [(0, ⟨0, .bool, y9⟩)], .res [(0, ⟨0, .int .i64, y10⟩)]]) (l := [(0, 0)]) (E' := [(0, .v 0 .bool ((((((y4 == (0 : Int)) && y5) && y7) && y8) && (!y9)) && (y10 == (-1 : Int))))]) (obs := [ACall prog 15 [⟨T_api_State, x3⟩, ⟨.int .i64, (1 : Int)⟩] [⟨0, .int .i64, y4⟩], (y4 == (0 : Int)) = true → ACall prog 18 [⟨T_api_State, x3⟩, ⟨.int .i64, (1 : Int)⟩] [⟨0, .bool, y5⟩], ((y4 == (0 : Int)) && y5) = true → ACall prog 17 [⟨T_api_State, x3⟩, ⟨.int .i64, (0 : Int)⟩] [⟨9, .slice (.int .i64), y6⟩], ((y4 == (0 : Int)) && y5) = true → ACall prog 22 [⟨.slice (.int .i64), y6⟩, ⟨.slice (.int .i64), [(1 : Int)]⟩] [⟨0, .bool, y7⟩], (((y4 == (0 : Int)) && y5) && y7) = true → ACall prog 19 [⟨T_api_State, x3⟩, ⟨.int .i64, (0 : Int)⟩, ⟨.int .i64, (1 : Int)⟩] [⟨0, .bool, y8⟩], ((((y4 == (0 : Int)) && y5) && y7) && y8) = true → ACall prog 19 [⟨T_api_State, x3⟩, ⟨.int .i64, (1 : Int)⟩, ⟨.int .i64, (0 : Int)⟩] [⟨0, .bool, y9⟩], (((((y4 == (0 : Int)) && y5) && y7) && y8) && (!y9)) = true → ACall prog 16 [⟨T_api_State, x3⟩, ⟨.int .i64, (0 : Int)⟩] [⟨0, .int .i64, y10⟩]]) (by kernel_rfl) (⟨chain_End.ok ey4, fun hc => chain_Lives.ok (bif_some ey5 hc), fun hc => chain_Behind.ok (bif_some ey6 hc), fun hc => r11_Ints.ok (bif_some ey7 hc), fun hc => chain_Closes.ok (bif_some ey8 hc), fun hc => chain_Closes.ok (bif_some ey9 hc), fun hc => chain_Next.ok (bif_some ey10 hc)⟩) ?_
  refine W_gen (x := (((((y4 == (0 : Int)) && y5) && y7) && y8) && (!y9)) && (y10 == (-1 : Int))) (En := fun x11 => [(0, .v 0 .bool x11)]) h (fun x11 h => ?_)
  refine W_keep (l := [(0, 0)]) (E' := [(0, .v 0 .bool x11)]) (by kernel_rfl) ?_
  replace h : x11 = r := h
  subst h
  exact W_ret tys_ok hw0 (by kernel_rfl) (by kernel_rfl)

noncomputable def chain_Waits_c1 (p0 : Int) (c0 : Int) (c1 : D_api_State) : Option Bool :=
  (bif decide (c0 ≥ (0 : Int)) then chain_Next c1 p0 else some (0 : Int)).bind fun y1 =>
  bnd ((decide (c0 ≥ (0 : Int))) && (y1 == c0)) fun x2 =>
  some x2
theorem chain_Waits_c1.ok {p0 : Int} {c0 : Int} {c1 : D_api_State} {r : Bool} (h : chain_Waits_c1 p0 c0 c1 = some r) : ACall prog 90 [⟨.int .i64, p0⟩, ⟨.cptr (.int .i64), c0⟩, ⟨.cptr T_api_State, c1⟩] [⟨0, .bool, r⟩] := by
  replace h := Leads.of h
  unfold chain_Waits_c1 at h
  refine acall_of func90 (by kernel_rfl) rfl (by kernel_rfl) fun w0 F0 hw0 => ?_
  refine W_seq ?_
  refine W_region mixed tys_ok (sup := []) (l := [(0, 0), (1, 0), (2, 0)]) (E' := [(0, .v 0 (.int .i64) p0), (1, .v 0 (.cptr (.int .i64)) c0), (2, .v 0 (.cptr T_api_State) c1)]) (obs := []) (by kernel_rfl) (trivial) ?_
  refine W_seq ?_
  obtain ⟨y1, ey1, h⟩ := h.bind
  refine W_region mixed tys_ok (sup := [.res [(0, ⟨0, .int .i64, y1⟩)]]) (l := [(4, 0)]) (E' := [(4, .v 0 .bool ((decide (c0 ≥ (0 : Int))) && (y1 == c0)))]) (obs := [(decide (c0 ≥ (0 : Int))) = true → ACall prog 16 [⟨T_api_State, c1⟩, ⟨.int .i64, p0⟩] [⟨0, .int .i64, y1⟩]]) (by kernel_rfl) (fun hc => chain_Next.ok (bif_some ey1 hc)) ?_
  refine W_gen (x := (decide (c0 ≥ (0 : Int))) && (y1 == c0)) (En := fun x2 => [(4, .v 0 .bool x2)]) h (fun x2 h => ?_)
  refine W_keep (l := [(4, 0)]) (E' := [(4, .v 0 .bool x2)]) (by kernel_rfl) ?_
  replace h : x2 = r := h
  subst h
  exact W_ret tys_ok hw0 (by kernel_rfl) (by kernel_rfl)

noncomputable def chain_Waits (p0 : D_api_State) (p1 : Int) : Option (List Int) :=
  (chain_those p0 (fun x => chain_Waits_c1 x p1 p0)).bind fun y1 =>
  some y1
theorem chain_Waits.ok {p0 : D_api_State} {p1 : Int} {r : List Int} (h : chain_Waits p0 p1 = some r) : ACall prog 26 [⟨T_api_State, p0⟩, ⟨.int .i64, p1⟩] [⟨9, .slice (.int .i64), r⟩] := by
  replace h := Leads.of h
  unfold chain_Waits at h
  refine acall_of func26 (by kernel_rfl) rfl (by kernel_rfl) fun w0 F0 hw0 => ?_
  refine W_seq ?_
  refine W_region mixed tys_ok (sup := []) (l := [(2, 0), (3, 9)]) (E' := [(2, .box 0 T_api_State p0), (3, .box 9 (.int .i64) p1)]) (obs := []) (by kernel_rfl) (trivial) ?_
  refine W_seq ?_
  obtain ⟨y1, ey1, h⟩ := h.bind
  refine W_region mixed tys_ok (sup := [.fn (.int .i64) .bool (fun x => chain_Waits_c1 x p1 p0), .res [(9, ⟨9, .slice (.int .i64), y1⟩)]]) (l := [(4, 9)]) (E' := [(4, .v 9 (.slice (.int .i64)) y1)]) (obs := [∀ x y, (fun x => chain_Waits_c1 x p1 p0) x = some y → ACall prog 90 (unprod (.int .i64) x ++ [⟨.cptr (.int .i64), p1⟩, ⟨.cptr T_api_State, p0⟩]) [⟨9, .bool, y⟩], ACall prog 86 [⟨T_api_State, p0⟩, ⟨.fn (.int .i64) .bool, fun x => chain_Waits_c1 x p1 p0⟩] [⟨9, .slice (.int .i64), y1⟩]]) (by kernel_rfl) (⟨fun x y e => ACall.flat rfl (chain_Waits_c1.ok e), chain_those.ok ey1⟩) ?_
  refine W_keep (l := [(4, 9)]) (E' := [(4, .v 9 (.slice (.int .i64)) y1)]) (by kernel_rfl) ?_
  replace h : y1 = r := h
  subst h
  exact W_ret tys_ok hw0 (by kernel_rfl) (by kernel_rfl)

noncomputable def r16_Behind_j1 (x1 : List Int) : Option (List Int) :=
  some x1
noncomputable def r16_Behind_j3 (x3 : Int) (x9 : List Int) : Option (((List Int) × Int) ⊕ (List Int)) :=
  bnd (IntKind.i64.wrap (x3 + (1 : Int))) fun x10 =>
  some (.inl (x9, x10))
noncomputable def r16_Behind_j2 (x2 : List Int) (x3 : Int) (x8 : Bool) : Option (((List Int) × Int) ⊕ (List Int)) :=
  bif x8 then
    ass (((x2.length + [x3].length : Nat) : Int) ≤ limA) <|
    bnd (x2 ++ [x3]) fun x11 =>
    r16_Behind_j3 x3 x11
  else
    r16_Behind_j3 x3 x2
noncomputable def r16_Behind_b1 (p0 : D_api_State) (p1 : Int) (p2 : Bool) (x2 : List Int) (x3 : Int) : Option (((List Int) × Int) ⊕ (List Int)) :=
  (bif decide (x3 < (p0.2.2.1.length : Int)) then r14_Thread p0 p1 else some false).bind fun y4 =>
  bif (decide (x3 < (p0.2.2.1.length : Int))) && y4 then
    (r14_ThreadArrows p0).bind fun y5 =>
    (r13_Reach (p0.2.2.1.length : Int) y5 x3).bind fun y6 =>
    ass (0 ≤ p1 ∧ p1 < (y6.length : Int)) <|
    bnd (rd false y6 p1) fun x7 =>
    bif p2 then
      (r16_Next p0 x3).bind fun y12 =>
      bnd (y12 == p1) fun x13 =>
      r16_Behind_j2 x2 x3 x13
    else
      r16_Behind_j2 x2 x3 x7
  else
    (r16_Behind_j1 x2).map .inr
noncomputable def r16_Behind (p0 : D_api_State) (p1 : Int) (p2 : Bool) : Option (List Int) :=
  loopM (fun x : (List Int) × Int => r16_Behind_b1 p0 p1 p2 x.1 x.2) (([] : List Int), (0 : Int))
theorem r16_Behind.ok {p0 : D_api_State} {p1 : Int} {p2 : Bool} {r : List Int} (h : r16_Behind p0 p1 p2 = some r) : ACall prog 27 [⟨T_api_State, p0⟩, ⟨.int .i64, p1⟩, ⟨.bool, p2⟩] [⟨9, .slice (.int .i64), r⟩] := by
  replace h := Leads.of h
  unfold r16_Behind at h
  refine acall_of func27 (by kernel_rfl) rfl (by kernel_rfl) fun w0 F0 hw0 => ?_
  refine W_seq ?_
  refine W_region mixed tys_ok (sup := []) (l := [(1, 0), (2, 0), (3, 0)]) (E' := [(1, .v 0 (.int .i64) p1), (2, .v 0 .bool p2), (3, .box 0 T_api_State p0)]) (obs := []) (by kernel_rfl) (trivial) ?_
  refine W_seq ?_
  refine W_region mixed tys_ok (sup := []) (l := [(1, 0), (2, 0), (3, 0), (7, 9)]) (E' := [(1, .v 0 (.int .i64) p1), (2, .v 0 .bool p2), (3, .box 0 T_api_State p0), (7, .v 9 (.slice (.int .i64)) ([] : List Int))]) (obs := []) (by kernel_rfl) (trivial) ?_
  refine W_seq ?_
  refine W_seq ?_
  refine W_region mixed tys_ok (sup := []) (l := [(1, 0), (2, 0), (3, 0), (7, 9), (8, 0)]) (E' := [(1, .v 0 (.int .i64) p1), (2, .v 0 .bool p2), (3, .box 0 T_api_State p0), (7, .v 9 (.slice (.int .i64)) ([] : List Int)), (8, .v 0 (.int .i64) (0 : Int))]) (obs := []) (by kernel_rfl) (trivial) ?_
  refine W_join h (Ej := fun (x : List Int) => [(7, .v 9 (.slice (.int .i64)) x)]) (p := fun x => r16_Behind_j1 x) ?_ ?_
  · rintro x1 h
    replace h : Leads _ (r16_Behind_j1 x1) := h
    unfold r16_Behind_j1 at h
    show W _ _ _ _ _ _ [(7, .v 9 (.slice (.int .i64)) x1)]
    refine W_seq ?_
    refine W_region mixed tys_ok (sup := []) (l := [(6, 9)]) (E' := [(6, .v 9 (.slice (.int .i64)) x1)]) (obs := []) (by kernel_rfl) (trivial) ?_
    refine W_keep (l := [(6, 9)]) (E' := [(6, .v 9 (.slice (.int .i64)) x1)]) (by kernel_rfl) ?_
    replace h : x1 = r := h
    subst h
    exact W_ret tys_ok hw0 (by kernel_rfl) (by kernel_rfl)
  · intro j1
    refine W_block ?_
    refine W_keep (l := [(1, 0), (2, 0), (3, 0), (7, 9), (8, 0)]) (E' := [(1, .v 0 (.int .i64) p1), (2, .v 0 .bool p2), (3, .box 0 T_api_State p0), (7, .v 9 (.slice (.int .i64)) ([] : List Int)), (8, .v 0 (.int .i64) (0 : Int))]) (by kernel_rfl) ?_
    refine W_loop' (En := fun (x : (List Int) × Int) => [(1, .v 0 (.int .i64) p1), (2, .v 0 .bool p2), (3, .box 0 T_api_State p0), (7, .v 9 (.slice (.int .i64)) x.1), (8, .v 0 (.int .i64) x.2)]) (x := (([] : List Int), (0 : Int))) h ?_
    rintro ⟨x2, x3⟩ K h
    replace h : Leads _ (r16_Behind_b1 p0 p1 p2 x2 x3) := h
    unfold r16_Behind_b1 at h
    show W _ _ _ _ _ _ [(1, .v 0 (.int .i64) p1), (2, .v 0 .bool p2), (3, .box 0 T_api_State p0), (7, .v 9 (.slice (.int .i64)) x2), (8, .v 0 (.int .i64) x3)]
    refine W_seq ?_
    refine W_seq ?_
    obtain ⟨y4, ey4, h⟩ := h.bind
    refine W_region mixed tys_ok (sup := [.res [(0, ⟨0, .bool, y4⟩)]]) (l := [(1, 0), (2, 0), (3, 0), (7, 9), (8, 0), (19, 0)]) (E' := [(1, .v 0 (.int .i64) p1), (2, .v 0 .bool p2), (3, .box 0 T_api_State p0), (7, .v 9 (.slice (.int .i64)) x2), (8, .v 0 (.int .i64) x3), (19, .v 0 .bool ((decide (x3 < (p0.2.2.1.length : Int))) && y4))]) (obs := [(decide (x3 < (p0.2.2.1.length : Int))) = true → ACall prog 89 [⟨T_api_State, p0⟩, ⟨.int .i64, p1⟩] [⟨0, .bool, y4⟩]]) (by kernel_rfl) (fun hc => r14_Thread.ok (bif_some ey4 hc)) ?_
    refine W_cond (β := (decide (x3 < (p0.2.2.1.length : Int))) && y4) (by kernel_rfl) (fun hb => ?_) (fun hb => ?_)
    · rw [hb] at h; rw [cond_true] at h
      refine W_skip ?_
      refine W_seq ?_
      refine W_block ?_
      refine W_seq ?_
      obtain ⟨y5, ey5, h⟩ := h.bind
      obtain ⟨y6, ey6, h⟩ := h.bind
      obtain ⟨o1, h⟩ := h.ass
      refine W_region mixed tys_ok (sup := [.res [(9, ⟨9, .slice T_r13_Arrow, y5⟩)], .res [(9, ⟨9, .slice .bool, y6⟩)]]) (l := [(1, 0), (2, 0), (3, 0), (7, 9), (8, 0), (9, 0)]) (E' := [(1, .v 0 (.int .i64) p1), (2, .v 0 .bool p2), (3, .box 0 T_api_State p0), (7, .v 9 (.slice (.int .i64)) x2), (8, .v 0 (.int .i64) x3), (9, .v 0 .bool (rd false y6 p1))]) (obs := [ACall prog 83 [⟨T_api_State, p0⟩] [⟨9, .slice T_r13_Arrow, y5⟩], ACall prog 32 [⟨.int .i64, (p0.2.2.1.length : Int)⟩, ⟨.slice T_r13_Arrow, y5⟩, ⟨.int .i64, x3⟩] [⟨9, .slice .bool, y6⟩], 0 ≤ p1 ∧ p1 < (y6.length : Int)]) (by kernel_rfl) (⟨r14_ThreadArrows.ok ey5, r13_Reach.ok ey6, o1⟩) ?_
      refine W_gen (x := rd false y6 p1) (En := fun x7 => [(1, .v 0 (.int .i64) p1), (2, .v 0 .bool p2), (3, .box 0 T_api_State p0), (7, .v 9 (.slice (.int .i64)) x2), (8, .v 0 (.int .i64) x3), (9, .v 0 .bool x7)]) h (fun x7 h => ?_)
      refine W_seq ?_
      refine W_seq ?_
      refine W_region mixed tys_ok (sup := []) (l := [(1, 0), (2, 0), (3, 0), (7, 9), (8, 0), (9, 0), (32, 0)]) (E' := [(1, .v 0 (.int .i64) p1), (2, .v 0 .bool p2), (3, .box 0 T_api_State p0), (7, .v 9 (.slice (.int .i64)) x2), (8, .v 0 (.int .i64) x3), (9, .v 0 .bool x7), (32, .v 0 .bool p2)]) (obs := []) (by kernel_rfl) (trivial) ?_
      refine W_join h (Ej := fun (x : Bool) => [(1, .v 0 (.int .i64) p1), (2, .v 0 .bool p2), (3, .box 0 T_api_State p0), (7, .v 9 (.slice (.int .i64)) x2), (8, .v 0 (.int .i64) x3), (9, .v 0 .bool x)]) (p := fun x => r16_Behind_j2 x2 x3 x) ?_ ?_
      · rintro x8 h
        replace h : Leads _ (r16_Behind_j2 x2 x3 x8) := h
        unfold r16_Behind_j2 at h
        show W _ _ _ _ _ _ [(1, .v 0 (.int .i64) p1), (2, .v 0 .bool p2), (3, .box 0 T_api_State p0), (7, .v 9 (.slice (.int .i64)) x2), (8, .v 0 (.int .i64) x3), (9, .v 0 .bool x8)]
        refine W_seq ?_
        refine W_region mixed tys_ok (sup := []) (l := [(1, 0), (2, 0), (3, 0), (7, 9), (8, 0), (38, 0)]) (E' := [(1, .v 0 (.int .i64) p1), (2, .v 0 .bool p2), (3, .box 0 T_api_State p0), (7, .v 9 (.slice (.int .i64)) x2), (8, .v 0 (.int .i64) x3), (38, .v 0 .bool x8)]) (obs := []) (by kernel_rfl) (trivial) ?_
        refine W_join h (Ej := fun (x : List Int) => [(1, .v 0 (.int .i64) p1), (2, .v 0 .bool p2), (3, .box 0 T_api_State p0), (7, .v 9 (.slice (.int .i64)) x), (8, .v 0 (.int .i64) x3)]) (p := fun x => r16_Behind_j3 x3 x) ?_ ?_
        · rintro x9 h
          replace h : Leads _ (r16_Behind_j3 x3 x9) := h
          unfold r16_Behind_j3 at h
          show W _ _ _ _ _ _ [(1, .v 0 (.int .i64) p1), (2, .v 0 .bool p2), (3, .box 0 T_api_State p0), (7, .v 9 (.slice (.int .i64)) x9), (8, .v 0 (.int .i64) x3)]
          refine W_blk ?_
          refine W_region mixed tys_ok (sup := []) (l := [(1, 0), (2, 0), (3, 0), (7, 9), (8, 0)]) (E' := [(1, .v 0 (.int .i64) p1), (2, .v 0 .bool p2), (3, .box 0 T_api_State p0), (7, .v 9 (.slice (.int .i64)) x9), (8, .v 0 (.int .i64) (IntKind.i64.wrap (x3 + (1 : Int))))]) (obs := []) (by kernel_rfl) (trivial) ?_
          refine W_gen (x := IntKind.i64.wrap (x3 + (1 : Int))) (En := fun x10 => [(1, .v 0 (.int .i64) p1), (2, .v 0 .bool p2), (3, .box 0 T_api_State p0), (7, .v 9 (.slice (.int .i64)) x9), (8, .v 0 (.int .i64) x10)]) h (fun x10 h => ?_)
          refine W_keep (l := [(1, 0), (2, 0), (3, 0), (7, 9), (8, 0)]) (E' := [(1, .v 0 (.int .i64) p1), (2, .v 0 .bool p2), (3, .box 0 T_api_State p0), (7, .v 9 (.slice (.int .i64)) x9), (8, .v 0 (.int .i64) x10)]) (by kernel_rfl) ?_
          exact W_abs h
        · intro j3
          refine W_cond (β := x8) (by kernel_rfl) (fun hb => ?_) (fun hb => ?_)
          · rw [cond_tt hb] at h
            obtain ⟨o1, h⟩ := h.ass
            refine W_region mixed tys_ok (sup := []) (l := [(1, 0), (2, 0), (3, 0), (7, 9), (8, 0)]) (E' := [(1, .v 0 (.int .i64) p1), (2, .v 0 .bool p2), (3, .box 0 T_api_State p0), (7, .v 9 (.slice (.int .i64)) (x2 ++ [x3])), (8, .v 0 (.int .i64) x3)]) (obs := [((x2.length + [x3].length : Nat) : Int) ≤ limA]) (by kernel_rfl) (o1) ?_
            refine W_gen (x := x2 ++ [x3]) (En := fun x11 => [(1, .v 0 (.int .i64) p1), (2, .v 0 .bool p2), (3, .box 0 T_api_State p0), (7, .v 9 (.slice (.int .i64)) x11), (8, .v 0 (.int .i64) x3)]) h (fun x11 h => ?_)
            refine W_keep (l := [(1, 0), (2, 0), (3, 0), (7, 9), (8, 0)]) (E' := [(1, .v 0 (.int .i64) p1), (2, .v 0 .bool p2), (3, .box 0 T_api_State p0), (7, .v 9 (.slice (.int .i64)) x11), (8, .v 0 (.int .i64) x3)]) (by kernel_rfl) ?_
            exact j3 x11 h
          · rw [cond_ff hb] at h
            refine W_skip ?_
            refine W_keep (l := [(1, 0), (2, 0), (3, 0), (7, 9), (8, 0)]) (E' := [(1, .v 0 (.int .i64) p1), (2, .v 0 .bool p2), (3, .box 0 T_api_State p0), (7, .v 9 (.slice (.int .i64)) x2), (8, .v 0 (.int .i64) x3)]) (by kernel_rfl) ?_
            exact j3 x2 h
      · intro j2
        refine W_cond (β := p2) (by kernel_rfl) (fun hb => ?_) (fun hb => ?_)
        · rw [cond_tt hb] at h
          obtain ⟨y12, ey12, h⟩ := h.bind
          refine W_region mixed tys_ok (sup := [.res [(0, ⟨0, .int .i64, y12⟩)]]) (l := [(1, 0), (2, 0), (3, 0), (7, 9), (8, 0), (9, 0)]) (E' := [(1, .v 0 (.int .i64) p1), (2, .v 0 .bool p2), (3, .box 0 T_api_State p0), (7, .v 9 (.slice (.int .i64)) x2), (8, .v 0 (.int .i64) x3), (9, .v 0 .bool (y12 == p1))]) (obs := [ACall prog 21 [⟨T_api_State, p0⟩, ⟨.int .i64, x3⟩] [⟨0, .int .i64, y12⟩]]) (by kernel_rfl) (r16_Next.ok ey12) ?_
          refine W_gen (x := y12 == p1) (En := fun x13 => [(1, .v 0 (.int .i64) p1), (2, .v 0 .bool p2), (3, .box 0 T_api_State p0), (7, .v 9 (.slice (.int .i64)) x2), (8, .v 0 (.int .i64) x3), (9, .v 0 .bool x13)]) h (fun x13 h => ?_)
          refine W_keep (l := [(1, 0), (2, 0), (3, 0), (7, 9), (8, 0), (9, 0)]) (E' := [(1, .v 0 (.int .i64) p1), (2, .v 0 .bool p2), (3, .box 0 T_api_State p0), (7, .v 9 (.slice (.int .i64)) x2), (8, .v 0 (.int .i64) x3), (9, .v 0 .bool x13)]) (by kernel_rfl) ?_
          exact j2 x13 h
        · rw [cond_ff hb] at h
          refine W_skip ?_
          refine W_keep (l := [(1, 0), (2, 0), (3, 0), (7, 9), (8, 0), (9, 0)]) (E' := [(1, .v 0 (.int .i64) p1), (2, .v 0 .bool p2), (3, .box 0 T_api_State p0), (7, .v 9 (.slice (.int .i64)) x2), (8, .v 0 (.int .i64) x3), (9, .v 0 .bool x7)]) (by kernel_rfl) ?_
          exact j2 x7 h
    · rw [hb] at h; rw [cond_false] at h
      refine W_exit rfl ?_
      refine W_keep (l := [(7, 9)]) (E' := [(7, .v 9 (.slice (.int .i64)) x2)]) (by kernel_rfl) ?_
      exact j1 x2 h.back

noncomputable def l16_ChainTells_j1 (p0 : D_api_State) (p1 : Int) (p2 : Int) (x5 : Bool) : Option (Bool) :=
  (chain_Next p0 p1).bind fun y6 =>
  (r16_Next p0 p1).bind fun y7 =>
  (bif !(y6 != y7) then chain_Tail p0 p1 else some ([] : List Int)).bind fun y8 =>
  (bif !(y6 != y7) then r16_Tail p0 p1 else some ([] : List Int)).bind fun y9 =>
  (bif !(y6 != y7) then r11_Ints y8 y9 else some false).bind fun y10 =>
  (bif !((y6 != y7) || (!y10)) then chain_End p0 p1 else some (0 : Int)).bind fun y11 =>
  (bif !((y6 != y7) || (!y10)) then r16_End p0 p1 else some (0 : Int)).bind fun y12 =>
  (bif !(((y6 != y7) || (!y10)) || (y11 != y12)) then chain_Closes p0 p1 p2 else some false).bind fun y13 =>
  (bif !((((y6 != y7) || (!y10)) || (y11 != y12)) || (y13 != x5)) then chain_Lives p0 p1 else some false).bind fun y14 =>
  (bif !((((y6 != y7) || (!y10)) || (y11 != y12)) || (y13 != x5)) then r16_Lives p0 p1 else some false).bind fun y15 =>
  bif ((((y6 != y7) || (!y10)) || (y11 != y12)) || (y13 != x5)) || (y14 != y15) then
    some false
  else
    (chain_Waits p0 p1).bind fun y16 =>
    (r16_Behind p0 p1 true).bind fun y17 =>
    (r11_Ints y16 y17).bind fun y18 =>
    (bif y18 then chain_Behind p0 p1 else some ([] : List Int)).bind fun y19 =>
    (bif y18 then r16_Behind p0 p1 false else some ([] : List Int)).bind fun y20 =>
    (bif y18 then r11_Ints y19 y20 else some false).bind fun y21 =>
    (bif y18 && y21 then l16_alive else some false).bind fun y22 =>
    bnd ((y18 && y21) && y22) fun x23 =>
    some x23
noncomputable def l16_ChainTells_b1 (p0 : D_api_State) (p1 : Int) (p2 : Int) (y4 : List Int) (x24 : Bool) (x25 : Int) : Option ((Bool × Int) ⊕ Bool) :=
  bif decide (x25 < (y4.length : Int)) then
    ass ((!x24) = true → 0 ≤ x25 ∧ x25 < (y4.length : Int)) <|
    bnd (x24 || ((rd (0 : Int) y4 x25) == p1)) fun x26 =>
    bnd (IntKind.i64.wrap (x25 + (1 : Int))) fun x27 =>
    some (.inl (x26, x27))
  else
    (l16_ChainTells_j1 p0 p1 p2 x24).map .inr
noncomputable def l16_ChainTells (p0 : D_api_State) (p1 : Int) (p2 : Int) : Option Bool :=
  (r14_Small p0).bind fun y1 =>
  (bif !(!y1) then r14_Fine p0 else some false).bind fun y2 =>
  bif (!y1) || (!y2) then
    (l16_alive).bind fun y3 =>
    some y3
  else
    (r16_Tail p0 p2).bind fun y4 =>
    loopM (fun x : Bool × Int => l16_ChainTells_b1 p0 p1 p2 y4 x.1 x.2) (false, (0 : Int))
theorem l16_ChainTells.ok {p0 : D_api_State} {p1 : Int} {p2 : Int} {r : Bool} (h : l16_ChainTells p0 p1 p2 = some r) : ACall prog 4 [⟨T_api_State, p0⟩, ⟨.int .i64, p1⟩, ⟨.int .i64, p2⟩] [⟨0, .bool, r⟩] := by
  replace h := Leads.of h
  unfold l16_ChainTells at h
  refine acall_of func4 (by kernel_rfl) rfl (by kernel_rfl) fun w0 F0 hw0 => ?_
  refine W_seq ?_
  refine W_region mixed tys_ok (sup := []) (l := [(1, 0), (2, 0), (3, 0)]) (E' := [(1, .v 0 (.int .i64) p1), (2, .v 0 (.int .i64) p2), (3, .box 0 T_api_State p0)]) (obs := []) (by kernel_rfl) (trivial) ?_
  refine W_seq ?_
  refine W_seq ?_
  obtain ⟨y1, ey1, h⟩ := h.bind
  obtain ⟨y2, ey2, h⟩ := h.bind
  refine W_region mixed tys_ok (sup := [.res [(0, ⟨0, .bool, y1⟩)], .res [(0, ⟨0, .bool, y2⟩)]]) (l := [(1, 0), (2, 0), (3, 0), (17, 0)]) (E' := [(1, .v 0 (.int .i64) p1), (2, .v 0 (.int .i64) p2), (3, .box 0 T_api_State p0), (17, .v 0 .bool ((!y1) || (!y2)))]) (obs := [ACall prog 12 [⟨T_api_State, p0⟩] [⟨0, .bool, y1⟩], (!(!y1)) = true → ACall prog 13 [⟨T_api_State, p0⟩] [⟨0, .bool, y2⟩]]) (by kernel_rfl) (⟨r14_Small.ok ey1, fun hc => r14_Fine.ok (bif_some ey2 hc)⟩) ?_
  refine W_cond (β := (!y1) || (!y2)) (by kernel_rfl) (fun hb => ?_) (fun hb => ?_)
  · rw [hb] at h; rw [cond_true] at h
    refine W_seq ?_
    obtain ⟨y3, ey3, h⟩ := h.bind
    refine W_region mixed tys_ok (sup := [.res [(0, ⟨0, .bool, y3⟩)]]) (l := [(6, 0)]) (E' := [(6, .v 0 .bool y3)]) (obs := [ACall prog 14 [] [⟨0, .bool, y3⟩]]) (by kernel_rfl) (l16_alive.ok ey3) ?_
    refine W_keep (l := [(6, 0)]) (E' := [(6, .v 0 .bool y3)]) (by kernel_rfl) ?_
    replace h : y3 = r := h
    subst h
    exact W_ret tys_ok hw0 (by kernel_rfl) (by kernel_rfl)
  · rw [hb] at h; rw [cond_false] at h
    refine W_skip ?_
    refine W_seq ?_
    refine W_region mixed tys_ok (sup := []) (l := [(1, 0), (2, 0), (3, 0), (7, 0)]) (E' := [(1, .v 0 (.int .i64) p1), (2, .v 0 (.int .i64) p2), (3, .box 0 T_api_State p0), (7, .v 0 .bool false)]) (obs := []) (by kernel_rfl) (trivial) ?_
    refine W_seq ?_
    obtain ⟨y4, ey4, h⟩ := h.bind
    refine W_region mixed tys_ok (sup := [.res [(9, ⟨9, .slice (.int .i64), y4⟩)]]) (l := [(1, 0), (2, 0), (3, 0), (7, 0), (8, 9)]) (E' := [(1, .v 0 (.int .i64) p1), (2, .v 0 (.int .i64) p2), (3, .box 0 T_api_State p0), (7, .v 0 .bool false), (8, .v 9 (.slice (.int .i64)) y4)]) (obs := [ACall prog 20 [⟨T_api_State, p0⟩, ⟨.int .i64, p2⟩] [⟨9, .slice (.int .i64), y4⟩]]) (by kernel_rfl) (r16_Tail.ok ey4) ?_
    refine W_seq ?_
    refine W_seq ?_
    refine W_region mixed tys_ok (sup := []) (l := [(1, 0), (2, 0), (3, 0), (7, 0), (8, 9), (9, 0)]) (E' := [(1, .v 0 (.int .i64) p1), (2, .v 0 (.int .i64) p2), (3, .box 0 T_api_State p0), (7, .v 0 .bool false), (8, .v 9 (.slice (.int .i64)) y4), (9, .v 0 (.int .i64) (0 : Int))]) (obs := []) (by kernel_rfl) (trivial) ?_
    refine W_join h (Ej := fun (x : Bool) => [(1, .v 0 (.int .i64) p1), (2, .v 0 (.int .i64) p2), (3, .box 0 T_api_State p0), (7, .v 0 .bool x)]) (p := fun x => l16_ChainTells_j1 p0 p1 p2 x) ?_ ?_
    · rintro x5 h
      replace h : Leads _ (l16_ChainTells_j1 p0 p1 p2 x5) := h
      unfold l16_ChainTells_j1 at h
      show W _ _ _ _ _ _ [(1, .v 0 (.int .i64) p1), (2, .v 0 (.int .i64) p2), (3, .box 0 T_api_State p0), (7, .v 0 .bool x5)]
      refine W_seq ?_
      refine W_seq ?_
      obtain ⟨y6, ey6, h⟩ := h.bind
      obtain ⟨y7, ey7, h⟩ := h.bind
      obtain ⟨y8, ey8, h⟩ := h.bind
      obtain ⟨y9, ey9, h⟩ := h.bind
      obtain ⟨y10, ey10, h⟩ := h.bind
      obtain ⟨y11, ey11, h⟩ := h.bind
      obtain ⟨y12, ey12, h⟩ := h.bind
      obtain ⟨y13, ey13, h⟩ := h.bind
      obtain ⟨y14, ey14, h⟩ := h.bind
      obtain ⟨y15, ey15, h⟩ := h.bind
      refine W_region mixed tys_ok (sup := [.res [(0, ⟨0, .int .i64, y6⟩)], .res [(0, ⟨0, .int .i64, y7⟩)], .res [(0, ⟨9, .slice (.int .i64), y8⟩)], .res [(0, ⟨9, .slice (.int .i64), y9⟩)], .res [(0, ⟨0, .bool, y10⟩)], .res [(0, ⟨0, .int .i64, y11⟩)], .res [(0, ⟨0, .int .i64, y12⟩)], .res [(0, ⟨0, .bool, y13⟩)], .res [(0, ⟨0, .bool, y14⟩)], .res [(0, ⟨0, .bool, y15⟩)]]) (l := [(1, 0), (3, 0), (79, 0)]) (E' := [(1, .v 0 (.int .i64) p1), (3, .box 0 T_api_State p0), (79, .v 0 .bool (((((y6 != y7) || (!y10)) || (y11 != y12)) || (y13 != x5)) || (y14 != y15)))]) (obs := [ACall prog 16 [⟨T_api_State, p0⟩, ⟨.int .i64, p1⟩] [⟨0, .int .i64, y6⟩], ACall prog 21 [⟨T_api_State, p0⟩, ⟨.int .i64, p1⟩] [⟨0, .int .i64, y7⟩], (!(y6 != y7)) = true → ACall prog 23 [⟨T_api_State, p0⟩, ⟨.int .i64, p1⟩] [⟨9, .slice (.int .i64), y8⟩], (!(y6 != y7)) = true → ACall prog 20 [⟨T_api_State, p0⟩, ⟨.int .i64, p1⟩] [⟨9, .slice (.int .i64), y9⟩], (!(y6 != y7)) = true → ACall prog 22 [⟨.slice (.int .i64), y8⟩, ⟨.slice (.int .i64), y9⟩] [⟨0, .bool, y10⟩], (!((y6 != y7) || (!y10))) = true → ACall prog 15 [⟨T_api_State, p0⟩, ⟨.int .i64, p1⟩] [⟨0, .int .i64, y11⟩], (!((y6 != y7) || (!y10))) = true → ACall prog 24 [⟨T_api_State, p0⟩, ⟨.int .i64, p1⟩] [⟨0, .int .i64, y12⟩], (!(((y6 != y7) || (!y10)) || (y11 != y12))) = true → ACall prog 19 [⟨T_api_State, p0⟩, ⟨.int .i64, p1⟩, ⟨.int .i64, p2⟩] [⟨0, .bool, y13⟩], (!((((y6 != y7) || (!y10)) || (y11 != y12)) || (y13 != x5))) = true → ACall prog 18 [⟨T_api_State, p0⟩, ⟨.int .i64, p1⟩] [⟨0, .bool, y14⟩], (!((((y6 != y7) || (!y10)) || (y11 != y12)) || (y13 != x5))) = true → ACall prog 25 [⟨T_api_State, p0⟩, ⟨.int .i64, p1⟩] [⟨0, .bool, y15⟩]]) (by kernel_rfl) (⟨chain_Next.ok ey6, r16_Next.ok ey7, fun hc => chain_Tail.ok (bif_some ey8 hc), fun hc => r16_Tail.ok (bif_some ey9 hc), fun hc => r11_Ints.ok (bif_some ey10 hc), fun hc => chain_End.ok (bif_some ey11 hc), fun hc => r16_End.ok (bif_some ey12 hc), fun hc => chain_Closes.ok (bif_some ey13 hc), fun hc => chain_Lives.ok (bif_some ey14 hc), fun hc => r16_Lives.ok (bif_some ey15 hc)⟩) ?_
      refine W_cond (β := ((((y6 != y7) || (!y10)) || (y11 != y12)) || (y13 != x5)) || (y14 != y15)) (by kernel_rfl) (fun hb => ?_) (fun hb => ?_)
      · rw [hb] at h; rw [cond_true] at h
        refine W_seq ?_
        refine W_region mixed tys_ok (sup := []) (l := [(6, 0)]) (E' := [(6, .v 0 .bool false)]) (obs := []) (by kernel_rfl) (trivial) ?_
        refine W_keep (l := [(6, 0)]) (E' := [(6, .v 0 .bool false)]) (by kernel_rfl) ?_
        replace h : false = r := h
        subst h
        exact W_ret tys_ok hw0 (by kernel_rfl) (by kernel_rfl)
      · rw [hb] at h; rw [cond_false] at h
        refine W_skip ?_
        refine W_seq ?_
        obtain ⟨y16, ey16, h⟩ := h.bind
        obtain ⟨y17, ey17, h⟩ := h.bind
        obtain ⟨y18, ey18, h⟩ := h.bind
        obtain ⟨y19, ey19, h⟩ := h.bind
        obtain ⟨y20, ey20, h⟩ := h.bind
        obtain ⟨y21, ey21, h⟩ := h.bind
        obtain ⟨y22, ey22, h⟩ := h.bind
        refine W_region mixed tys_ok (sup := [.res [(9, ⟨9, .slice (.int .i64), y16⟩)], .res [(9, ⟨9, .slice (.int .i64), y17⟩)], .res [(0, ⟨0, .bool, y18⟩)], .res [(0, ⟨9, .slice (.int .i64), y19⟩)], .res [(0, ⟨9, .slice (.int .i64), y20⟩)], .res [(0, ⟨0, .bool, y21⟩)], .res [(0, ⟨0, .bool, y22⟩)]]) (l := [(6, 0)]) (E' := [(6, .v 0 .bool ((y18 && y21) && y22))]) (obs := [ACall prog 26 [⟨T_api_State, p0⟩, ⟨.int .i64, p1⟩] [⟨9, .slice (.int .i64), y16⟩], ACall prog 27 [⟨T_api_State, p0⟩, ⟨.int .i64, p1⟩, ⟨.bool, true⟩] [⟨9, .slice (.int .i64), y17⟩], ACall prog 22 [⟨.slice (.int .i64), y16⟩, ⟨.slice (.int .i64), y17⟩] [⟨0, .bool, y18⟩], y18 = true → ACall prog 17 [⟨T_api_State, p0⟩, ⟨.int .i64, p1⟩] [⟨9, .slice (.int .i64), y19⟩], y18 = true → ACall prog 27 [⟨T_api_State, p0⟩, ⟨.int .i64, p1⟩, ⟨.bool, false⟩] [⟨9, .slice (.int .i64), y20⟩], y18 = true → ACall prog 22 [⟨.slice (.int .i64), y19⟩, ⟨.slice (.int .i64), y20⟩] [⟨0, .bool, y21⟩], (y18 && y21) = true → ACall prog 14 [] [⟨0, .bool, y22⟩]]) (by kernel_rfl) (⟨chain_Waits.ok ey16, r16_Behind.ok ey17, r11_Ints.ok ey18, fun hc => chain_Behind.ok (bif_some ey19 hc), fun hc => r16_Behind.ok (bif_some ey20 hc), fun hc => r11_Ints.ok (bif_some ey21 hc), fun hc => l16_alive.ok (bif_some ey22 hc)⟩) ?_
        refine W_gen (x := (y18 && y21) && y22) (En := fun x23 => [(6, .v 0 .bool x23)]) h (fun x23 h => ?_)
        refine W_keep (l := [(6, 0)]) (E' := [(6, .v 0 .bool x23)]) (by kernel_rfl) ?_
        replace h : x23 = r := h
        subst h
        exact W_ret tys_ok hw0 (by kernel_rfl) (by kernel_rfl)
    · intro j1
      refine W_block ?_
      refine W_keep (l := [(1, 0), (2, 0), (3, 0), (7, 0), (8, 9), (9, 0)]) (E' := [(1, .v 0 (.int .i64) p1), (2, .v 0 (.int .i64) p2), (3, .box 0 T_api_State p0), (7, .v 0 .bool false), (8, .v 9 (.slice (.int .i64)) y4), (9, .v 0 (.int .i64) (0 : Int))]) (by kernel_rfl) ?_
      refine W_loop' (En := fun (x : Bool × Int) => [(1, .v 0 (.int .i64) p1), (2, .v 0 (.int .i64) p2), (3, .box 0 T_api_State p0), (7, .v 0 .bool x.1), (8, .v 9 (.slice (.int .i64)) y4), (9, .v 0 (.int .i64) x.2)]) (x := (false, (0 : Int))) h ?_
      rintro ⟨x24, x25⟩ K h
      replace h : Leads _ (l16_ChainTells_b1 p0 p1 p2 y4 x24 x25) := h
      unfold l16_ChainTells_b1 at h
      show W _ _ _ _ _ _ [(1, .v 0 (.int .i64) p1), (2, .v 0 (.int .i64) p2), (3, .box 0 T_api_State p0), (7, .v 0 .bool x24), (8, .v 9 (.slice (.int .i64)) y4), (9, .v 0 (.int .i64) x25)]
      refine W_seq ?_
      refine W_seq ?_
      refine W_region mixed tys_ok (sup := []) (l := [(1, 0), (2, 0), (3, 0), (7, 0), (8, 9), (9, 0), (25, 0)]) (E' := [(1, .v 0 (.int .i64) p1), (2, .v 0 (.int .i64) p2), (3, .box 0 T_api_State p0), (7, .v 0 .bool x24), (8, .v 9 (.slice (.int .i64)) y4), (9, .v 0 (.int .i64) x25), (25, .v 0 .bool (decide (x25 < (y4.length : Int))))]) (obs := []) (by kernel_rfl) (trivial) ?_
      refine W_cond (β := decide (x25 < (y4.length : Int))) (by kernel_rfl) (fun hb => ?_) (fun hb => ?_)
      · rw [hb] at h; rw [cond_true] at h
        refine W_skip ?_
        refine W_seq ?_
        refine W_block ?_
        obtain ⟨o1, h⟩ := h.ass
        refine W_region mixed tys_ok (sup := []) (l := [(1, 0), (2, 0), (3, 0), (7, 0), (8, 9), (9, 0)]) (E' := [(1, .v 0 (.int .i64) p1), (2, .v 0 (.int .i64) p2), (3, .box 0 T_api_State p0), (7, .v 0 .bool (x24 || ((rd (0 : Int) y4 x25) == p1))), (8, .v 9 (.slice (.int .i64)) y4), (9, .v 0 (.int .i64) x25)]) (obs := [(!x24) = true → 0 ≤ x25 ∧ x25 < (y4.length : Int)]) (by kernel_rfl) (o1) ?_
        refine W_gen (x := x24 || ((rd (0 : Int) y4 x25) == p1)) (En := fun x26 => [(1, .v 0 (.int .i64) p1), (2, .v 0 (.int .i64) p2), (3, .box 0 T_api_State p0), (7, .v 0 .bool x26), (8, .v 9 (.slice (.int .i64)) y4), (9, .v 0 (.int .i64) x25)]) h (fun x26 h => ?_)
        refine W_blk ?_
        refine W_region mixed tys_ok (sup := []) (l := [(1, 0), (2, 0), (3, 0), (7, 0), (8, 9), (9, 0)]) (E' := [(1, .v 0 (.int .i64) p1), (2, .v 0 (.int .i64) p2), (3, .box 0 T_api_State p0), (7, .v 0 .bool x26), (8, .v 9 (.slice (.int .i64)) y4), (9, .v 0 (.int .i64) (IntKind.i64.wrap (x25 + (1 : Int))))]) (obs := []) (by kernel_rfl) (trivial) ?_
        refine W_gen (x := IntKind.i64.wrap (x25 + (1 : Int))) (En := fun x27 => [(1, .v 0 (.int .i64) p1), (2, .v 0 (.int .i64) p2), (3, .box 0 T_api_State p0), (7, .v 0 .bool x26), (8, .v 9 (.slice (.int .i64)) y4), (9, .v 0 (.int .i64) x27)]) h (fun x27 h => ?_)
        refine W_keep (l := [(1, 0), (2, 0), (3, 0), (7, 0), (8, 9), (9, 0)]) (E' := [(1, .v 0 (.int .i64) p1), (2, .v 0 (.int .i64) p2), (3, .box 0 T_api_State p0), (7, .v 0 .bool x26), (8, .v 9 (.slice (.int .i64)) y4), (9, .v 0 (.int .i64) x27)]) (by kernel_rfl) ?_
        exact W_abs h
      · rw [hb] at h; rw [cond_false] at h
        refine W_exit rfl ?_
        refine W_keep (l := [(1, 0), (2, 0), (3, 0), (7, 0)]) (E' := [(1, .v 0 (.int .i64) p1), (2, .v 0 (.int .i64) p2), (3, .box 0 T_api_State p0), (7, .v 0 .bool x24)]) (by kernel_rfl) ?_
        exact j1 x24 h.back

noncomputable def l16_ChainEnds_j1 : Option (Bool) :=
  (l16_alive).bind fun y4 =>
  some y4
noncomputable def l16_ChainEnds_j2 (x5 : Int) : Option (Int ⊕ Bool) :=
  bnd (IntKind.i64.wrap (x5 + (1 : Int))) fun x6 =>
  some (.inl x6)
noncomputable def l16_ChainEnds_j3 (x5 : Int) : Option (Int ⊕ Bool) :=
  l16_ChainEnds_j2 x5
noncomputable def l16_ChainEnds_b2 (p0 : D_api_State) (x5 : Int) (y7 : Int) (y9 : List Int) (x10 : Int) : Option (Int ⊕ (Int ⊕ Bool)) :=
  bif decide (x10 < (y9.length : Int)) then
    ass (0 ≤ x10 ∧ x10 < (y9.length : Int)) <|
    (chain_End p0 (rd (0 : Int) y9 x10)).bind fun y11 =>
    ass ((!(y11 != y7)) = true → 0 ≤ x10 ∧ x10 < (y9.length : Int)) <|
    (bif !(y11 != y7) then chain_Lives p0 (rd (0 : Int) y9 x10) else some false).bind fun y12 =>
    (bif !(y11 != y7) then chain_Lives p0 x5 else some false).bind fun y13 =>
    ass ((!((y11 != y7) || (y12 != y13))) = true → 0 ≤ x10 ∧ x10 < (y9.length : Int)) <|
    (bif !((y11 != y7) || (y12 != y13)) then chain_Closes p0 x5 (rd (0 : Int) y9 x10) else some false).bind fun y14 =>
    bif ((y11 != y7) || (y12 != y13)) || (!y14) then
      some (.inr (.inr false))
    else
      bnd (IntKind.i64.wrap (x10 + (1 : Int))) fun x15 =>
      some (.inl x15)
  else
    (l16_ChainEnds_j3 x5).map .inr
noncomputable def l16_ChainEnds_b1 (p0 : D_api_State) (x5 : Int) : Option (Int ⊕ Bool) :=
  bif decide (x5 < (p0.2.2.1.length : Int)) then
    ass (0 ≤ x5 ∧ x5 < (p0.2.2.1.length : Int)) <|
    bif (rd z_api_Thread p0.2.2.1 x5).1 == (0 : Int) then
      l16_ChainEnds_j2 x5
    else
      (chain_End p0 x5).bind fun y7 =>
      (bif !(decide (y7 < (0 : Int))) then chain_Next p0 y7 else some (0 : Int)).bind fun y8 =>
      bif (decide (y7 < (0 : Int))) || (y8 != (-1 : Int)) then
        some (.inr false)
      else
        (chain_Behind p0 x5).bind fun y9 =>
        loopM (fun x : Int => l16_ChainEnds_b2 p0 x5 y7 y9 x) (0 : Int)
  else
    (l16_ChainEnds_j1).map .inr
noncomputable def l16_ChainEnds (p0 : D_api_State) : Option Bool :=
  (r14_Small p0).bind fun y1 =>
  (bif !(!y1) then r14_Fine p0 else some false).bind fun y2 =>
  bif (!y1) || (!y2) then
    (l16_alive).bind fun y3 =>
    some y3
  else
    loopM (fun x : Int => l16_ChainEnds_b1 p0 x) (0 : Int)
theorem l16_ChainEnds.ok {p0 : D_api_State} {r : Bool} (h : l16_ChainEnds p0 = some r) : ACall prog 3 [⟨T_api_State, p0⟩] [⟨0, .bool, r⟩] := by
  replace h := Leads.of h
  unfold l16_ChainEnds at h
  refine acall_of func3 (by kernel_rfl) rfl (by kernel_rfl) fun w0 F0 hw0 => ?_
  refine W_seq ?_
  refine W_region mixed tys_ok (sup := []) (l := [(1, 0)]) (E' := [(1, .box 0 T_api_State p0)]) (obs := []) (by kernel_rfl) (trivial) ?_
  refine W_seq ?_
  refine W_seq ?_
  obtain ⟨y1, ey1, h⟩ := h.bind
  obtain ⟨y2, ey2, h⟩ := h.bind
  refine W_region mixed tys_ok (sup := [.res [(0, ⟨0, .bool, y1⟩)], .res [(0, ⟨0, .bool, y2⟩)]]) (l := [(1, 0), (14, 0)]) (E' := [(1, .box 0 T_api_State p0), (14, .v 0 .bool ((!y1) || (!y2)))]) (obs := [ACall prog 12 [⟨T_api_State, p0⟩] [⟨0, .bool, y1⟩], (!(!y1)) = true → ACall prog 13 [⟨T_api_State, p0⟩] [⟨0, .bool, y2⟩]]) (by kernel_rfl) (⟨r14_Small.ok ey1, fun hc => r14_Fine.ok (bif_some ey2 hc)⟩) ?_
  refine W_cond (β := (!y1) || (!y2)) (by kernel_rfl) (fun hb => ?_) (fun hb => ?_)
  · rw [hb] at h; rw [cond_true] at h
    refine W_seq ?_
    obtain ⟨y3, ey3, h⟩ := h.bind
    refine W_region mixed tys_ok (sup := [.res [(0, ⟨0, .bool, y3⟩)]]) (l := [(2, 0)]) (E' := [(2, .v 0 .bool y3)]) (obs := [ACall prog 14 [] [⟨0, .bool, y3⟩]]) (by kernel_rfl) (l16_alive.ok ey3) ?_
    refine W_keep (l := [(2, 0)]) (E' := [(2, .v 0 .bool y3)]) (by kernel_rfl) ?_
    replace h : y3 = r := h
    subst h
    exact W_ret tys_ok hw0 (by kernel_rfl) (by kernel_rfl)
  · rw [hb] at h; rw [cond_false] at h
    refine W_skip ?_
    refine W_seq ?_
    refine W_seq ?_
    refine W_region mixed tys_ok (sup := []) (l := [(1, 0), (3, 0)]) (E' := [(1, .box 0 T_api_State p0), (3, .v 0 (.int .i64) (0 : Int))]) (obs := []) (by kernel_rfl) (trivial) ?_
    refine W_join h (Ej := fun (x : Unit) => []) (p := fun x => l16_ChainEnds_j1) ?_ ?_
    · rintro ⟨⟩ h
      replace h : Leads _ (l16_ChainEnds_j1) := h
      unfold l16_ChainEnds_j1 at h
      show W _ _ _ _ _ _ []
      refine W_seq ?_
      obtain ⟨y4, ey4, h⟩ := h.bind
      refine W_region mixed tys_ok (sup := [.res [(0, ⟨0, .bool, y4⟩)]]) (l := [(2, 0)]) (E' := [(2, .v 0 .bool y4)]) (obs := [ACall prog 14 [] [⟨0, .bool, y4⟩]]) (by kernel_rfl) (l16_alive.ok ey4) ?_
      refine W_keep (l := [(2, 0)]) (E' := [(2, .v 0 .bool y4)]) (by kernel_rfl) ?_
      replace h : y4 = r := h
      subst h
      exact W_ret tys_ok hw0 (by kernel_rfl) (by kernel_rfl)
    · intro j1
      refine W_block ?_
      refine W_keep (l := [(1, 0), (3, 0)]) (E' := [(1, .box 0 T_api_State p0), (3, .v 0 (.int .i64) (0 : Int))]) (by kernel_rfl) ?_
      refine W_loop' (En := fun (x : Int) => [(1, .box 0 T_api_State p0), (3, .v 0 (.int .i64) x)]) (x := (0 : Int)) h ?_
      rintro x5 K h
      replace h : Leads _ (l16_ChainEnds_b1 p0 x5) := h
      unfold l16_ChainEnds_b1 at h
      show W _ _ _ _ _ _ [(1, .box 0 T_api_State p0), (3, .v 0 (.int .i64) x5)]
      refine W_seq ?_
      refine W_seq ?_
      refine W_region mixed tys_ok (sup := []) (l := [(1, 0), (3, 0), (20, 0)]) (E' := [(1, .box 0 T_api_State p0), (3, .v 0 (.int .i64) x5), (20, .v 0 .bool (decide (x5 < (p0.2.2.1.length : Int))))]) (obs := []) (by kernel_rfl) (trivial) ?_
      refine W_cond (β := decide (x5 < (p0.2.2.1.length : Int))) (by kernel_rfl) (fun hb => ?_) (fun hb => ?_)
      · rw [hb] at h; rw [cond_true] at h
        refine W_skip ?_
        refine W_seq ?_
        refine W_join h (Ej := fun (x : Unit) => [(1, .box 0 T_api_State p0), (3, .v 0 (.int .i64) x5)]) (p := fun x => l16_ChainEnds_j2 x5) ?_ ?_
        · rintro ⟨⟩ h
          replace h : Leads _ (l16_ChainEnds_j2 x5) := h
          unfold l16_ChainEnds_j2 at h
          show W _ _ _ _ _ _ [(1, .box 0 T_api_State p0), (3, .v 0 (.int .i64) x5)]
          refine W_region mixed tys_ok (sup := []) (l := [(1, 0), (3, 0)]) (E' := [(1, .box 0 T_api_State p0), (3, .v 0 (.int .i64) (IntKind.i64.wrap (x5 + (1 : Int))))]) (obs := []) (by kernel_rfl) (trivial) ?_
          refine W_gen (x := IntKind.i64.wrap (x5 + (1 : Int))) (En := fun x6 => [(1, .box 0 T_api_State p0), (3, .v 0 (.int .i64) x6)]) h (fun x6 h => ?_)
          refine W_keep (l := [(1, 0), (3, 0)]) (E' := [(1, .box 0 T_api_State p0), (3, .v 0 (.int .i64) x6)]) (by kernel_rfl) ?_
          exact W_abs h
        · intro j2
          refine W_block ?_
          refine W_seq ?_
          refine W_seq ?_
          obtain ⟨o1, h⟩ := h.ass
          refine W_region mixed tys_ok (sup := []) (l := [(1, 0), (3, 0), (29, 0)]) (E' := [(1, .box 0 T_api_State p0), (3, .v 0 (.int .i64) x5), (29, .v 0 .bool ((rd z_api_Thread p0.2.2.1 x5).1 == (0 : Int)))]) (obs := [0 ≤ x5 ∧ x5 < (p0.2.2.1.length : Int)]) (by kernel_rfl) (o1) ?_
          refine W_cond (β := (rd z_api_Thread p0.2.2.1 x5).1 == (0 : Int)) (by kernel_rfl) (fun hb => ?_) (fun hb => ?_)
          · rw [hb] at h; rw [cond_true] at h
            refine W_exit rfl ?_
            refine W_keep (l := [(1, 0), (3, 0)]) (E' := [(1, .box 0 T_api_State p0), (3, .v 0 (.int .i64) x5)]) (by kernel_rfl) ?_
            exact j2 () h
          · rw [hb] at h; rw [cond_false] at h
            refine W_skip ?_
            refine W_seq ?_
            obtain ⟨y7, ey7, h⟩ := h.bind
            refine W_region mixed tys_ok (sup := [.res [(0, ⟨0, .int .i64, y7⟩)]]) (l := [(1, 0), (3, 0), (4, 0)]) (E' := [(1, .box 0 T_api_State p0), (3, .v 0 (.int .i64) x5), (4, .v 0 (.int .i64) y7)]) (obs := [ACall prog 15 [⟨T_api_State, p0⟩, ⟨.int .i64, x5⟩] [⟨0, .int .i64, y7⟩]]) (by kernel_rfl) (chain_End.ok ey7) ?_
            refine W_seq ?_
            refine W_seq ?_
            obtain ⟨y8, ey8, h⟩ := h.bind
            refine W_region mixed tys_ok (sup := [.res [(0, ⟨0, .int .i64, y8⟩)]]) (l := [(1, 0), (3, 0), (4, 0), (40, 0)]) (E' := [(1, .box 0 T_api_State p0), (3, .v 0 (.int .i64) x5), (4, .v 0 (.int .i64) y7), (40, .v 0 .bool ((decide (y7 < (0 : Int))) || (y8 != (-1 : Int))))]) (obs := [(!(decide (y7 < (0 : Int)))) = true → ACall prog 16 [⟨T_api_State, p0⟩, ⟨.int .i64, y7⟩] [⟨0, .int .i64, y8⟩]]) (by kernel_rfl) (fun hc => chain_Next.ok (bif_some ey8 hc)) ?_
            refine W_cond (β := (decide (y7 < (0 : Int))) || (y8 != (-1 : Int))) (by kernel_rfl) (fun hb => ?_) (fun hb => ?_)
            · rw [hb] at h; rw [cond_true] at h
              refine W_seq ?_
              refine W_region mixed tys_ok (sup := []) (l := [(2, 0)]) (E' := [(2, .v 0 .bool false)]) (obs := []) (by kernel_rfl) (trivial) ?_
              refine W_keep (l := [(2, 0)]) (E' := [(2, .v 0 .bool false)]) (by kernel_rfl) ?_
              replace h : false = r := h
              subst h
              exact W_ret tys_ok hw0 (by kernel_rfl) (by kernel_rfl)
            · rw [hb] at h; rw [cond_false] at h
              refine W_skip ?_
              refine W_seq ?_
              obtain ⟨y9, ey9, h⟩ := h.bind
              refine W_region mixed tys_ok (sup := [.res [(9, ⟨9, .slice (.int .i64), y9⟩)]]) (l := [(1, 0), (3, 0), (4, 0), (5, 9)]) (E' := [(1, .box 0 T_api_State p0), (3, .v 0 (.int .i64) x5), (4, .v 0 (.int .i64) y7), (5, .v 9 (.slice (.int .i64)) y9)]) (obs := [ACall prog 17 [⟨T_api_State, p0⟩, ⟨.int .i64, x5⟩] [⟨9, .slice (.int .i64), y9⟩]]) (by kernel_rfl) (chain_Behind.ok ey9) ?_
              refine W_seq ?_
              refine W_region mixed tys_ok (sup := []) (l := [(1, 0), (3, 0), (4, 0), (5, 9), (6, 0)]) (E' := [(1, .box 0 T_api_State p0), (3, .v 0 (.int .i64) x5), (4, .v 0 (.int .i64) y7), (5, .v 9 (.slice (.int .i64)) y9), (6, .v 0 (.int .i64) (0 : Int))]) (obs := []) (by kernel_rfl) (trivial) ?_
              refine W_join h (Ej := fun (x : Unit) => [(1, .box 0 T_api_State p0), (3, .v 0 (.int .i64) x5)]) (p := fun x => l16_ChainEnds_j3 x5) ?_ ?_
              · rintro ⟨⟩ h
                replace h : Leads _ (l16_ChainEnds_j3 x5) := h
                unfold l16_ChainEnds_j3 at h
                show W _ _ _ _ _ _ [(1, .box 0 T_api_State p0), (3, .v 0 (.int .i64) x5)]
                refine W_blk ?_
                refine W_keep (l := [(1, 0), (3, 0)]) (E' := [(1, .box 0 T_api_State p0), (3, .v 0 (.int .i64) x5)]) (by kernel_rfl) ?_
                exact j2 () h
              · intro j3
                refine W_block ?_
                refine W_keep (l := [(1, 0), (3, 0), (4, 0), (5, 9), (6, 0)]) (E' := [(1, .box 0 T_api_State p0), (3, .v 0 (.int .i64) x5), (4, .v 0 (.int .i64) y7), (5, .v 9 (.slice (.int .i64)) y9), (6, .v 0 (.int .i64) (0 : Int))]) (by kernel_rfl) ?_
                refine W_loop' (En := fun (x : Int) => [(1, .box 0 T_api_State p0), (3, .v 0 (.int .i64) x5), (4, .v 0 (.int .i64) y7), (5, .v 9 (.slice (.int .i64)) y9), (6, .v 0 (.int .i64) x)]) (x := (0 : Int)) h ?_
                rintro x10 K h
                replace h : Leads _ (l16_ChainEnds_b2 p0 x5 y7 y9 x10) := h
                unfold l16_ChainEnds_b2 at h
                show W _ _ _ _ _ _ [(1, .box 0 T_api_State p0), (3, .v 0 (.int .i64) x5), (4, .v 0 (.int .i64) y7), (5, .v 9 (.slice (.int .i64)) y9), (6, .v 0 (.int .i64) x10)]
                refine W_seq ?_
                refine W_seq ?_
                refine W_region mixed tys_ok (sup := []) (l := [(1, 0), (3, 0), (4, 0), (5, 9), (6, 0), (47, 0)]) (E' := [(1, .box 0 T_api_State p0), (3, .v 0 (.int .i64) x5), (4, .v 0 (.int .i64) y7), (5, .v 9 (.slice (.int .i64)) y9), (6, .v 0 (.int .i64) x10), (47, .v 0 .bool (decide (x10 < (y9.length : Int))))]) (obs := []) (by kernel_rfl) (trivial) ?_
                refine W_cond (β := decide (x10 < (y9.length : Int))) (by kernel_rfl) (fun hb => ?_) (fun hb => ?_)
                · rw [hb] at h; rw [cond_true] at h
                  refine W_skip ?_
                  refine W_seq ?_
                  refine W_block ?_
                  refine W_seq ?_
                  obtain ⟨o1, h⟩ := h.ass
                  obtain ⟨y11, ey11, h⟩ := h.bind
                  obtain ⟨o2, h⟩ := h.ass
                  obtain ⟨y12, ey12, h⟩ := h.bind
                  obtain ⟨y13, ey13, h⟩ := h.bind
                  obtain ⟨o3, h⟩ := h.ass
                  obtain ⟨y14, ey14, h⟩ := h.bind
                  refine W_region mixed tys_ok (sup := [.res [(0, ⟨0, .int .i64, y11⟩)], .res [(0, ⟨0, .bool, y12⟩)], .res [(0, ⟨0, .bool, y13⟩)], .res [(0, ⟨0, .bool, y14⟩)]]) (l := [(1, 0), (3, 0), (4, 0), (5, 9), (6, 0), (79, 0)]) (E' := [(1, .box 0 T_api_State p0), (3, .v 0 (.int .i64) x5), (4, .v 0 (.int .i64) y7), (5, .v 9 (.slice (.int .i64)) y9), (6, .v 0 (.int .i64) x10), (79, .v 0 .bool (((y11 != y7) || (y12 != y13)) || (!y14)))]) (obs := [0 ≤ x10 ∧ x10 < (y9.length : Int), ACall prog 15 [⟨T_api_State, p0⟩, ⟨.int .i64, rd (0 : Int) y9 x10⟩] [⟨0, .int .i64, y11⟩], (!(y11 != y7)) = true → 0 ≤ x10 ∧ x10 < (y9.length : Int), (!(y11 != y7)) = true → ACall prog 18 [⟨T_api_State, p0⟩, ⟨.int .i64, rd (0 : Int) y9 x10⟩] [⟨0, .bool, y12⟩], (!(y11 != y7)) = true → ACall prog 18 [⟨T_api_State, p0⟩, ⟨.int .i64, x5⟩] [⟨0, .bool, y13⟩], (!((y11 != y7) || (y12 != y13))) = true → 0 ≤ x10 ∧ x10 < (y9.length : Int), (!((y11 != y7) || (y12 != y13))) = true → ACall prog 19 [⟨T_api_State, p0⟩, ⟨.int .i64, x5⟩, ⟨.int .i64, rd (0 : Int) y9 x10⟩] [⟨0, .bool, y14⟩]]) (by kernel_rfl) (⟨o1, chain_End.ok ey11, o2, fun hc => chain_Lives.ok (bif_some ey12 hc), fun hc => chain_Lives.ok (bif_some ey13 hc), o3, fun hc => chain_Closes.ok (bif_some ey14 hc)⟩) ?_
                  refine W_cond (β := ((y11 != y7) || (y12 != y13)) || (!y14)) (by kernel_rfl) (fun hb => ?_) (fun hb => ?_)
                  · rw [hb] at h; rw [cond_true] at h
                    refine W_seq ?_
                    refine W_region mixed tys_ok (sup := []) (l := [(2, 0)]) (E' := [(2, .v 0 .bool false)]) (obs := []) (by kernel_rfl) (trivial) ?_
                    refine W_keep (l := [(2, 0)]) (E' := [(2, .v 0 .bool false)]) (by kernel_rfl) ?_
                    replace h : false = r := h
                    subst h
                    exact W_ret tys_ok hw0 (by kernel_rfl) (by kernel_rfl)
                  · rw [hb] at h; rw [cond_false] at h
                    refine W_skip ?_
                    refine W_blk ?_
                    refine W_region mixed tys_ok (sup := []) (l := [(1, 0), (3, 0), (4, 0), (5, 9), (6, 0)]) (E' := [(1, .box 0 T_api_State p0), (3, .v 0 (.int .i64) x5), (4, .v 0 (.int .i64) y7), (5, .v 9 (.slice (.int .i64)) y9), (6, .v 0 (.int .i64) (IntKind.i64.wrap (x10 + (1 : Int))))]) (obs := []) (by kernel_rfl) (trivial) ?_
                    refine W_gen (x := IntKind.i64.wrap (x10 + (1 : Int))) (En := fun x15 => [(1, .box 0 T_api_State p0), (3, .v 0 (.int .i64) x5), (4, .v 0 (.int .i64) y7), (5, .v 9 (.slice (.int .i64)) y9), (6, .v 0 (.int .i64) x15)]) h (fun x15 h => ?_)
                    refine W_keep (l := [(1, 0), (3, 0), (4, 0), (5, 9), (6, 0)]) (E' := [(1, .box 0 T_api_State p0), (3, .v 0 (.int .i64) x5), (4, .v 0 (.int .i64) y7), (5, .v 9 (.slice (.int .i64)) y9), (6, .v 0 (.int .i64) x15)]) (by kernel_rfl) ?_
                    exact W_abs h
                · rw [hb] at h; rw [cond_false] at h
                  refine W_exit rfl ?_
                  refine W_keep (l := [(1, 0), (3, 0)]) (E' := [(1, .box 0 T_api_State p0), (3, .v 0 (.int .i64) x5)]) (by kernel_rfl) ?_
                  exact j3 () h.back
      · rw [hb] at h; rw [cond_false] at h
        refine W_exit rfl ?_
        refine W_keep (l := []) (E' := []) (by kernel_rfl) ?_
        exact j1 () h.back

noncomputable def slices_Clone_int_int (p0 : List Int) : Option (List Int) :=
  ass (((([] : List Int).length + p0.length : Nat) : Int) ≤ limA) <|
  bnd (([] : List Int) ++ p0) fun x2 =>
  some x2
theorem slices_Clone_int_int.ok {p0 : List Int} {r : List Int} (h : slices_Clone_int_int p0 = some r) : ACall prog 93 [⟨.slice (.int .i64), p0⟩] [⟨9, .slice (.int .i64), r⟩] := by
  replace h := Leads.of h
  unfold slices_Clone_int_int at h
  refine acall_of func93 (by kernel_rfl) rfl (by kernel_rfl) fun w0 F0 hw0 => ?_
  refine W_seq ?_
  refine W_region mixed tys_ok (sup := []) (l := [(0, 0)]) (E' := [(0, .v 0 (.slice (.int .i64)) p0)]) (obs := []) (by kernel_rfl) (trivial) ?_
  refine W_seq ?_
  refine W_seq ?_
  refine W_nilcmp mixed tys_ok rfl (x := 3) (d := 4) (T := 26) rfl rfl rfl (E1 := [(3, .v 0 (.slice (.int .i64)) p0), (0, .v 0 (.slice (.int .i64)) p0)]) (by kernel_rfl) rfl rfl (by kernel_rfl) (fun nb1 hn => ?_)
  refine W_keep (l := [(0, 0), (4, 0)]) (E' := [(0, .v 0 (.slice (.int .i64)) p0), (4, .v 0 .bool nb1)]) (by kernel_rfl) ?_
  refine W_cond (β := nb1) (by kernel_rfl) (fun hb => ?_) (fun hb => ?_)
  · replace h := clone_nil (hn hb) h
    refine W_seq ?_
    refine W_region mixed tys_ok (sup := []) (l := [(2, 9)]) (E' := [(2, .v 9 (.slice (.int .i64)) ([] : List Int))]) (obs := []) (by kernel_rfl) (trivial) ?_
    refine W_keep (l := [(2, 9)]) (E' := [(2, .v 9 (.slice (.int .i64)) ([] : List Int))]) (by kernel_rfl) ?_
    replace h : (([] : List Int)) = r := h
    subst h
    exact W_ret tys_ok hw0 (by kernel_rfl) (by kernel_rfl)
  · skip
    refine W_skip ?_
    refine W_seq ?_
    obtain ⟨o1, h⟩ := h.ass
    refine W_region mixed tys_ok (sup := []) (l := [(2, 9)]) (E' := [(2, .v 9 (.slice (.int .i64)) (([] : List Int) ++ p0))]) (obs := [((([] : List Int).length + p0.length : Nat) : Int) ≤ limA]) (by kernel_rfl) (o1) ?_
    refine W_gen (x := ([] : List Int) ++ p0) (En := fun x2 => [(2, .v 9 (.slice (.int .i64)) x2)]) h (fun x2 h => ?_)
    refine W_keep (l := [(2, 9)]) (E' := [(2, .v 9 (.slice (.int .i64)) x2)]) (by kernel_rfl) ?_
    replace h : x2 = r := h
    subst h
    exact W_ret tys_ok hw0 (by kernel_rfl) (by kernel_rfl)

noncomputable def dag_Reach_j2 (x5 : List Int) : Option (List Int) :=
  some x5
noncomputable def dag_Reach_j3 (x7 : Int) (x9 : List Int) : Option (((List Int) × Int) ⊕ (List Int)) :=
  bnd (IntKind.i64.wrap (x7 + (1 : Int))) fun x10 =>
  some (.inl (x9, x10))
noncomputable def dag_Reach_b1 (x4 : List Bool) (x6 : List Int) (x7 : Int) : Option (((List Int) × Int) ⊕ (List Int)) :=
  bif decide (x7 < (x4.length : Int)) then
    ass (0 ≤ x7 ∧ x7 < (x4.length : Int)) <|
    bnd (rd false x4 x7) fun x8 =>
    bif x8 then
      ass (((x6.length + [x7].length : Nat) : Int) ≤ limA) <|
      bnd (x6 ++ [x7]) fun x11 =>
      dag_Reach_j3 x7 x11
    else
      dag_Reach_j3 x7 x6
  else
    (dag_Reach_j2 x6).map .inr
noncomputable def dag_Reach_j1 (x4 : List Bool) : Option (List Int) :=
  loopM (fun x : (List Int) × Int => dag_Reach_b1 x4 x.1 x.2) (([] : List Int), (0 : Int))
noncomputable def dag_Reach_b2 (y1 : List (List Int)) (x12 : List Bool) (x13 : List Int) : Option (((List Bool) × (List Int)) ⊕ (List Int)) :=
  bif decide ((x13.length : Int) > (0 : Int)) then
    ass (0 ≤ IntKind.i64.wrap ((x13.length : Int) - (1 : Int)) ∧ IntKind.i64.wrap ((x13.length : Int) - (1 : Int)) < (x13.length : Int)) <|
    bnd (rd (0 : Int) x13 (IntKind.i64.wrap ((x13.length : Int) - (1 : Int)))) fun x14 =>
    ass (0 ≤ (0 : Int) ∧ (0 : Int) ≤ IntKind.i64.wrap ((x13.length : Int) - (1 : Int)) ∧ IntKind.i64.wrap ((x13.length : Int) - (1 : Int)) ≤ (x13.length : Int)) <|
    bnd (sl x13 (0 : Int) (IntKind.i64.wrap ((x13.length : Int) - (1 : Int)))) fun x15 =>
    ass (0 ≤ x14 ∧ x14 < (x12.length : Int)) <|
    bif !(rd false x12 x14) then
      ass (0 ≤ x14 ∧ x14 < (x12.length : Int)) <|
      bnd (wr x12 x14 true) fun x16 =>
      ass (0 ≤ x14 ∧ x14 < (y1.length : Int)) <|
      ass (((x15.length + (rd ([] : List Int) y1 x14).length : Nat) : Int) ≤ limA) <|
      bnd (x15 ++ (rd ([] : List Int) y1 x14)) fun x17 =>
      some (.inl (x16, x17))
    else
      some (.inl (x12, x15))
  else
    (dag_Reach_j1 x12).map .inr
noncomputable def dag_Reach (p0 : Int) (p1 : List D_dag_Arrow) (p2 : Int) : Option (List Int) :=
  (dag_heads p0 p1).bind fun y1 =>
  bif (decide (p2 < (0 : Int))) || (decide (p2 ≥ (y1.length : Int))) then
    some ([] : List Int)
  else
    ass (0 ≤ (y1.length : Int) ∧ (y1.length : Int) ≤ (y1.length : Int) ∧ (y1.length : Int) ≤ lim) <|
    bnd (List.replicate (y1.length : Int).toNat false) fun x2 =>
    ass (0 ≤ p2 ∧ p2 < (y1.length : Int)) <|
    (slices_Clone_int_int (rd ([] : List Int) y1 p2)).bind fun y3 =>
    loopM (fun x : (List Bool) × (List Int) => dag_Reach_b2 y1 x.1 x.2) (x2, y3)
theorem dag_Reach.ok {p0 : Int} {p1 : List D_dag_Arrow} {p2 : Int} {r : List Int} (h : dag_Reach p0 p1 p2 = some r) : ACall prog 35 [⟨.int .i64, p0⟩, ⟨.slice T_dag_Arrow, p1⟩, ⟨.int .i64, p2⟩] [⟨9, .slice (.int .i64), r⟩] := by
  replace h := Leads.of h
  unfold dag_Reach at h
  refine acall_of func35 (by kernel_rfl) rfl (by kernel_rfl) fun w0 F0 hw0 => ?_
  refine W_seq ?_
  refine W_region mixed tys_ok (sup := []) (l := [(0, 0), (1, 0), (2, 0), (6, 9)]) (E' := [(0, .v 0 (.int .i64) p0), (1, .v 0 (.slice T_dag_Arrow) p1), (2, .v 0 (.int .i64) p2), (6, .v 9 (.slice (.int .i64)) ([] : List Int))]) (obs := []) (by kernel_rfl) (trivial) ?_
  refine W_seq ?_
  obtain ⟨y1, ey1, h⟩ := h.bind
  refine W_region mixed tys_ok (sup := [.res [(9, ⟨9, .slice (.slice (.int .i64)), y1⟩)]]) (l := [(2, 0), (6, 9), (7, 9)]) (E' := [(2, .v 0 (.int .i64) p2), (6, .v 9 (.slice (.int .i64)) ([] : List Int)), (7, .v 9 (.slice (.slice (.int .i64))) y1)]) (obs := [ACall prog 91 [⟨.int .i64, p0⟩, ⟨.slice T_dag_Arrow, p1⟩] [⟨9, .slice (.slice (.int .i64)), y1⟩]]) (by kernel_rfl) (dag_heads.ok ey1) ?_
  refine W_seq ?_
  refine W_seq ?_
  refine W_region mixed tys_ok (sup := []) (l := [(2, 0), (6, 9), (7, 9), (23, 0)]) (E' := [(2, .v 0 (.int .i64) p2), (6, .v 9 (.slice (.int .i64)) ([] : List Int)), (7, .v 9 (.slice (.slice (.int .i64))) y1), (23, .v 0 .bool ((decide (p2 < (0 : Int))) || (decide (p2 ≥ (y1.length : Int)))))]) (obs := []) (by kernel_rfl) (trivial) ?_
  refine W_cond (β := (decide (p2 < (0 : Int))) || (decide (p2 ≥ (y1.length : Int)))) (by kernel_rfl) (fun hb => ?_) (fun hb => ?_)
  · rw [hb] at h; rw [cond_true] at h
    refine W_seq ?_
    refine W_region mixed tys_ok (sup := []) (l := [(6, 9)]) (E' := [(6, .v 9 (.slice (.int .i64)) ([] : List Int))]) (obs := []) (by kernel_rfl) (trivial) ?_
    refine W_keep (l := [(6, 9)]) (E' := [(6, .v 9 (.slice (.int .i64)) ([] : List Int))]) (by kernel_rfl) ?_
    replace h : (([] : List Int)) = r := h
    subst h
    exact W_ret tys_ok hw0 (by kernel_rfl) (by kernel_rfl)
  · rw [hb] at h; rw [cond_false] at h
    refine W_skip ?_
    refine W_seq ?_
    obtain ⟨o1, h⟩ := h.ass
    refine W_region mixed tys_ok (sup := []) (l := [(2, 0), (6, 9), (7, 9), (8, 9)]) (E' := [(2, .v 0 (.int .i64) p2), (6, .v 9 (.slice (.int .i64)) ([] : List Int)), (7, .v 9 (.slice (.slice (.int .i64))) y1), (8, .v 9 (.slice .bool) (List.replicate (y1.length : Int).toNat false))]) (obs := [0 ≤ (y1.length : Int) ∧ (y1.length : Int) ≤ (y1.length : Int) ∧ (y1.length : Int) ≤ lim]) (by kernel_rfl) (o1) ?_
    refine W_gen (x := List.replicate (y1.length : Int).toNat false) (En := fun x2 => [(2, .v 0 (.int .i64) p2), (6, .v 9 (.slice (.int .i64)) ([] : List Int)), (7, .v 9 (.slice (.slice (.int .i64))) y1), (8, .v 9 (.slice .bool) x2)]) h (fun x2 h => ?_)
    refine W_seq ?_
    refine W_seq ?_
    obtain ⟨o1, h⟩ := h.ass
    obtain ⟨y3, ey3, h⟩ := h.bind
    refine W_region mixed tys_ok (sup := [.res [(9, ⟨9, .slice (.int .i64), y3⟩)]]) (l := [(6, 9), (7, 9), (8, 9), (9, 9)]) (E' := [(6, .v 9 (.slice (.int .i64)) ([] : List Int)), (7, .v 9 (.slice (.slice (.int .i64))) y1), (8, .v 9 (.slice .bool) x2), (9, .v 9 (.slice (.int .i64)) y3)]) (obs := [0 ≤ p2 ∧ p2 < (y1.length : Int), ACall prog 93 [⟨.slice (.int .i64), rd ([] : List Int) y1 p2⟩] [⟨9, .slice (.int .i64), y3⟩]]) (by kernel_rfl) (⟨o1, slices_Clone_int_int.ok ey3⟩) ?_
    refine W_join h (Ej := fun (x : List Bool) => [(6, .v 9 (.slice (.int .i64)) ([] : List Int)), (8, .v 9 (.slice .bool) x)]) (p := fun x => dag_Reach_j1 x) ?_ ?_
    · rintro x4 h
      replace h : Leads _ (dag_Reach_j1 x4) := h
      unfold dag_Reach_j1 at h
      show W _ _ _ _ _ _ [(6, .v 9 (.slice (.int .i64)) ([] : List Int)), (8, .v 9 (.slice .bool) x4)]
      refine W_seq ?_
      refine W_seq ?_
      refine W_region mixed tys_ok (sup := []) (l := [(6, 9), (8, 9), (60, 0), (61, 0), (62, 0)]) (E' := [(6, .v 9 (.slice (.int .i64)) ([] : List Int)), (8, .v 9 (.slice .bool) x4), (60, .bor 8 []), (61, .v 0 (.int .i64) (x4.length : Int)), (62, .v 0 (.int .i64) (0 : Int))]) (obs := []) (by kernel_rfl) (trivial) ?_
      refine W_join h (Ej := fun (x : List Int) => [(6, .v 9 (.slice (.int .i64)) x)]) (p := fun x => dag_Reach_j2 x) ?_ ?_
      · rintro x5 h
        replace h : Leads _ (dag_Reach_j2 x5) := h
        unfold dag_Reach_j2 at h
        show W _ _ _ _ _ _ [(6, .v 9 (.slice (.int .i64)) x5)]
        refine W_seq ?_
        refine W_region mixed tys_ok (sup := []) (l := [(6, 9)]) (E' := [(6, .v 9 (.slice (.int .i64)) x5)]) (obs := []) (by kernel_rfl) (trivial) ?_
        refine W_keep (l := [(6, 9)]) (E' := [(6, .v 9 (.slice (.int .i64)) x5)]) (by kernel_rfl) ?_
        replace h : x5 = r := h
        subst h
        exact W_ret tys_ok hw0 (by kernel_rfl) (by kernel_rfl)
      · intro j2
        refine W_block ?_
        refine W_keep (l := [(6, 9), (8, 9), (60, 0), (61, 0), (62, 0)]) (E' := [(6, .v 9 (.slice (.int .i64)) ([] : List Int)), (8, .v 9 (.slice .bool) x4), (60, .bor 8 []), (61, .v 0 (.int .i64) (x4.length : Int)), (62, .v 0 (.int .i64) (0 : Int))]) (by kernel_rfl) ?_
        refine W_loop' (En := fun (x : (List Int) × Int) => [(6, .v 9 (.slice (.int .i64)) x.1), (8, .v 9 (.slice .bool) x4), (60, .bor 8 []), (61, .v 0 (.int .i64) (x4.length : Int)), (62, .v 0 (.int .i64) x.2)]) (x := (([] : List Int), (0 : Int))) h ?_
        rintro ⟨x6, x7⟩ K h
        replace h : Leads _ (dag_Reach_b1 x4 x6 x7) := h
        unfold dag_Reach_b1 at h
        show W _ _ _ _ _ _ [(6, .v 9 (.slice (.int .i64)) x6), (8, .v 9 (.slice .bool) x4), (60, .bor 8 []), (61, .v 0 (.int .i64) (x4.length : Int)), (62, .v 0 (.int .i64) x7)]
        refine W_seq ?_
        refine W_region mixed tys_ok (sup := []) (l := [(6, 9), (8, 9), (60, 0), (61, 0), (62, 0), (63, 0)]) (E' := [(6, .v 9 (.slice (.int .i64)) x6), (8, .v 9 (.slice .bool) x4), (60, .bor 8 []), (61, .v 0 (.int .i64) (x4.length : Int)), (62, .v 0 (.int .i64) x7), (63, .v 0 .bool (decide (x7 < (x4.length : Int))))]) (obs := []) (by kernel_rfl) (trivial) ?_
        refine W_seq ?_
        refine W_cond (β := decide (x7 < (x4.length : Int))) (by kernel_rfl) (fun hb => ?_) (fun hb => ?_)
        · rw [hb] at h; rw [cond_true] at h
          refine W_skip ?_
          refine W_seq ?_
          refine W_block ?_
          refine W_seq ?_
          obtain ⟨o1, h⟩ := h.ass
          refine W_region mixed tys_ok (sup := []) (l := [(6, 9), (8, 9), (11, 0), (12, 0), (60, 0), (61, 0), (62, 0)]) (E' := [(6, .v 9 (.slice (.int .i64)) x6), (8, .v 9 (.slice .bool) x4), (11, .v 0 (.int .i64) x7), (12, .v 0 .bool (rd false x4 x7)), (60, .bor 8 []), (61, .v 0 (.int .i64) (x4.length : Int)), (62, .v 0 (.int .i64) x7)]) (obs := [0 ≤ x7 ∧ x7 < (x4.length : Int)]) (by kernel_rfl) (o1) ?_
          refine W_gen (x := rd false x4 x7) (En := fun x8 => [(6, .v 9 (.slice (.int .i64)) x6), (8, .v 9 (.slice .bool) x4), (11, .v 0 (.int .i64) x7), (12, .v 0 .bool x8), (60, .bor 8 []), (61, .v 0 (.int .i64) (x4.length : Int)), (62, .v 0 (.int .i64) x7)]) h (fun x8 h => ?_)
          refine W_seq ?_
          refine W_region mixed tys_ok (sup := []) (l := [(6, 9), (8, 9), (11, 0), (60, 0), (61, 0), (62, 0), (67, 0)]) (E' := [(6, .v 9 (.slice (.int .i64)) x6), (8, .v 9 (.slice .bool) x4), (11, .v 0 (.int .i64) x7), (60, .bor 8 []), (61, .v 0 (.int .i64) (x4.length : Int)), (62, .v 0 (.int .i64) x7), (67, .v 0 .bool x8)]) (obs := []) (by kernel_rfl) (trivial) ?_
          refine W_join h (Ej := fun (x : List Int) => [(6, .v 9 (.slice (.int .i64)) x), (8, .v 9 (.slice .bool) x4), (60, .bor 8 []), (61, .v 0 (.int .i64) (x4.length : Int)), (62, .v 0 (.int .i64) x7)]) (p := fun x => dag_Reach_j3 x7 x) ?_ ?_
          · rintro x9 h
            replace h : Leads _ (dag_Reach_j3 x7 x9) := h
            unfold dag_Reach_j3 at h
            show W _ _ _ _ _ _ [(6, .v 9 (.slice (.int .i64)) x9), (8, .v 9 (.slice .bool) x4), (60, .bor 8 []), (61, .v 0 (.int .i64) (x4.length : Int)), (62, .v 0 (.int .i64) x7)]
            refine W_blk ?_
            refine W_region mixed tys_ok (sup := []) (l := [(6, 9), (8, 9), (60, 0), (61, 0), (62, 0)]) (E' := [(6, .v 9 (.slice (.int .i64)) x9), (8, .v 9 (.slice .bool) x4), (60, .bor 8 []), (61, .v 0 (.int .i64) (x4.length : Int)), (62, .v 0 (.int .i64) (IntKind.i64.wrap (x7 + (1 : Int))))]) (obs := []) (by kernel_rfl) (trivial) ?_
            refine W_gen (x := IntKind.i64.wrap (x7 + (1 : Int))) (En := fun x10 => [(6, .v 9 (.slice (.int .i64)) x9), (8, .v 9 (.slice .bool) x4), (60, .bor 8 []), (61, .v 0 (.int .i64) (x4.length : Int)), (62, .v 0 (.int .i64) x10)]) h (fun x10 h => ?_)
            refine W_keep (l := [(6, 9), (8, 9), (60, 0), (61, 0), (62, 0)]) (E' := [(6, .v 9 (.slice (.int .i64)) x9), (8, .v 9 (.slice .bool) x4), (60, .bor 8 []), (61, .v 0 (.int .i64) (x4.length : Int)), (62, .v 0 (.int .i64) x10)]) (by kernel_rfl) ?_
            exact W_abs h
          · intro j3
            refine W_cond (β := x8) (by kernel_rfl) (fun hb => ?_) (fun hb => ?_)
            · rw [cond_tt hb] at h
              obtain ⟨o1, h⟩ := h.ass
              refine W_region mixed tys_ok (sup := []) (l := [(6, 9), (8, 9), (60, 0), (61, 0), (62, 0)]) (E' := [(6, .v 9 (.slice (.int .i64)) (x6 ++ [x7])), (8, .v 9 (.slice .bool) x4), (60, .bor 8 []), (61, .v 0 (.int .i64) (x4.length : Int)), (62, .v 0 (.int .i64) x7)]) (obs := [((x6.length + [x7].length : Nat) : Int) ≤ limA]) (by kernel_rfl) (o1) ?_
              refine W_gen (x := x6 ++ [x7]) (En := fun x11 => [(6, .v 9 (.slice (.int .i64)) x11), (8, .v 9 (.slice .bool) x4), (60, .bor 8 []), (61, .v 0 (.int .i64) (x4.length : Int)), (62, .v 0 (.int .i64) x7)]) h (fun x11 h => ?_)
              refine W_keep (l := [(6, 9), (8, 9), (60, 0), (61, 0), (62, 0)]) (E' := [(6, .v 9 (.slice (.int .i64)) x11), (8, .v 9 (.slice .bool) x4), (60, .bor 8 []), (61, .v 0 (.int .i64) (x4.length : Int)), (62, .v 0 (.int .i64) x7)]) (by kernel_rfl) ?_
              exact j3 x11 h
            · rw [cond_ff hb] at h
              refine W_skip ?_
              refine W_keep (l := [(6, 9), (8, 9), (60, 0), (61, 0), (62, 0)]) (E' := [(6, .v 9 (.slice (.int .i64)) x6), (8, .v 9 (.slice .bool) x4), (60, .bor 8 []), (61, .v 0 (.int .i64) (x4.length : Int)), (62, .v 0 (.int .i64) x7)]) (by kernel_rfl) ?_
              exact j3 x6 h
        · rw [hb] at h; rw [cond_false] at h
          refine W_exit rfl ?_
          refine W_keep (l := [(6, 9)]) (E' := [(6, .v 9 (.slice (.int .i64)) x6)]) (by kernel_rfl) ?_
          exact j2 x6 h.back
    · intro j1
      refine W_block ?_
      refine W_keep (l := [(6, 9), (7, 9), (8, 9), (9, 9)]) (E' := [(6, .v 9 (.slice (.int .i64)) ([] : List Int)), (7, .v 9 (.slice (.slice (.int .i64))) y1), (8, .v 9 (.slice .bool) x2), (9, .v 9 (.slice (.int .i64)) y3)]) (by kernel_rfl) ?_
      refine W_loop' (En := fun (x : (List Bool) × (List Int)) => [(6, .v 9 (.slice (.int .i64)) ([] : List Int)), (7, .v 9 (.slice (.slice (.int .i64))) y1), (8, .v 9 (.slice .bool) x.1), (9, .v 9 (.slice (.int .i64)) x.2)]) (x := (x2, y3)) h ?_
      rintro ⟨x12, x13⟩ K h
      replace h : Leads _ (dag_Reach_b2 y1 x12 x13) := h
      unfold dag_Reach_b2 at h
      show W _ _ _ _ _ _ [(6, .v 9 (.slice (.int .i64)) ([] : List Int)), (7, .v 9 (.slice (.slice (.int .i64))) y1), (8, .v 9 (.slice .bool) x12), (9, .v 9 (.slice (.int .i64)) x13)]
      refine W_seq ?_
      refine W_seq ?_
      refine W_region mixed tys_ok (sup := []) (l := [(6, 9), (7, 9), (8, 9), (9, 9), (34, 0)]) (E' := [(6, .v 9 (.slice (.int .i64)) ([] : List Int)), (7, .v 9 (.slice (.slice (.int .i64))) y1), (8, .v 9 (.slice .bool) x12), (9, .v 9 (.slice (.int .i64)) x13), (34, .v 0 .bool (decide ((x13.length : Int) > (0 : Int))))]) (obs := []) (by kernel_rfl) (trivial) ?_
      refine W_cond (β := decide ((x13.length : Int) > (0 : Int))) (by kernel_rfl) (fun hb => ?_) (fun hb => ?_)
      · rw [hb] at h; rw [cond_true] at h
        refine W_skip ?_
        refine W_block ?_
        refine W_seq ?_
        obtain ⟨o1, h⟩ := h.ass
        refine W_region mixed tys_ok (sup := []) (l := [(6, 9), (7, 9), (8, 9), (9, 9), (10, 0)]) (E' := [(6, .v 9 (.slice (.int .i64)) ([] : List Int)), (7, .v 9 (.slice (.slice (.int .i64))) y1), (8, .v 9 (.slice .bool) x12), (9, .v 9 (.slice (.int .i64)) x13), (10, .v 0 (.int .i64) (rd (0 : Int) x13 (IntKind.i64.wrap ((x13.length : Int) - (1 : Int)))))]) (obs := [0 ≤ IntKind.i64.wrap ((x13.length : Int) - (1 : Int)) ∧ IntKind.i64.wrap ((x13.length : Int) - (1 : Int)) < (x13.length : Int)]) (by kernel_rfl) (o1) ?_
        refine W_gen (x := rd (0 : Int) x13 (IntKind.i64.wrap ((x13.length : Int) - (1 : Int)))) (En := fun x14 => [(6, .v 9 (.slice (.int .i64)) ([] : List Int)), (7, .v 9 (.slice (.slice (.int .i64))) y1), (8, .v 9 (.slice .bool) x12), (9, .v 9 (.slice (.int .i64)) x13), (10, .v 0 (.int .i64) x14)]) h (fun x14 h => ?_)
        refine W_seq ?_
        obtain ⟨o1, h⟩ := h.ass
        refine W_region mixed tys_ok (sup := []) (l := [(6, 9), (7, 9), (8, 9), (9, 9), (10, 0)]) (E' := [(6, .v 9 (.slice (.int .i64)) ([] : List Int)), (7, .v 9 (.slice (.slice (.int .i64))) y1), (8, .v 9 (.slice .bool) x12), (9, .v 9 (.slice (.int .i64)) (sl x13 (0 : Int) (IntKind.i64.wrap ((x13.length : Int) - (1 : Int))))), (10, .v 0 (.int .i64) x14)]) (obs := [0 ≤ (0 : Int) ∧ (0 : Int) ≤ IntKind.i64.wrap ((x13.length : Int) - (1 : Int)) ∧ IntKind.i64.wrap ((x13.length : Int) - (1 : Int)) ≤ (x13.length : Int)]) (by kernel_rfl) (o1) ?_
        refine W_gen (x := sl x13 (0 : Int) (IntKind.i64.wrap ((x13.length : Int) - (1 : Int)))) (En := fun x15 => [(6, .v 9 (.slice (.int .i64)) ([] : List Int)), (7, .v 9 (.slice (.slice (.int .i64))) y1), (8, .v 9 (.slice .bool) x12), (9, .v 9 (.slice (.int .i64)) x15), (10, .v 0 (.int .i64) x14)]) h (fun x15 h => ?_)
        refine W_seq ?_
        obtain ⟨o1, h⟩ := h.ass
        refine W_region mixed tys_ok (sup := []) (l := [(6, 9), (7, 9), (8, 9), (9, 9), (10, 0), (50, 0)]) (E' := [(6, .v 9 (.slice (.int .i64)) ([] : List Int)), (7, .v 9 (.slice (.slice (.int .i64))) y1), (8, .v 9 (.slice .bool) x12), (9, .v 9 (.slice (.int .i64)) x15), (10, .v 0 (.int .i64) x14), (50, .v 0 .bool (!(rd false x12 x14)))]) (obs := [0 ≤ x14 ∧ x14 < (x12.length : Int)]) (by kernel_rfl) (o1) ?_
        refine W_cond (β := !(rd false x12 x14)) (by kernel_rfl) (fun hb => ?_) (fun hb => ?_)
        · rw [hb] at h; rw [cond_true] at h
          refine W_seq ?_
          obtain ⟨o1, h⟩ := h.ass
          refine W_region mixed tys_ok (sup := []) (l := [(6, 9), (7, 9), (8, 9), (9, 9), (10, 0)]) (E' := [(6, .v 9 (.slice (.int .i64)) ([] : List Int)), (7, .v 9 (.slice (.slice (.int .i64))) y1), (8, .v 9 (.slice .bool) (wr x12 x14 true)), (9, .v 9 (.slice (.int .i64)) x15), (10, .v 0 (.int .i64) x14)]) (obs := [0 ≤ x14 ∧ x14 < (x12.length : Int)]) (by kernel_rfl) (o1) ?_
          refine W_gen (x := wr x12 x14 true) (En := fun x16 => [(6, .v 9 (.slice (.int .i64)) ([] : List Int)), (7, .v 9 (.slice (.slice (.int .i64))) y1), (8, .v 9 (.slice .bool) x16), (9, .v 9 (.slice (.int .i64)) x15), (10, .v 0 (.int .i64) x14)]) h (fun x16 h => ?_)
          obtain ⟨o1, h⟩ := h.ass
          obtain ⟨o2, h⟩ := h.ass
          refine W_region mixed tys_ok (sup := []) (l := [(6, 9), (7, 9), (8, 9), (9, 9)]) (E' := [(6, .v 9 (.slice (.int .i64)) ([] : List Int)), (7, .v 9 (.slice (.slice (.int .i64))) y1), (8, .v 9 (.slice .bool) x16), (9, .v 9 (.slice (.int .i64)) (x15 ++ (rd ([] : List Int) y1 x14)))]) (obs := [0 ≤ x14 ∧ x14 < (y1.length : Int), ((x15.length + (rd ([] : List Int) y1 x14).length : Nat) : Int) ≤ limA]) (by kernel_rfl) (⟨o1, o2⟩) ?_
          refine W_gen (x := x15 ++ (rd ([] : List Int) y1 x14)) (En := fun x17 => [(6, .v 9 (.slice (.int .i64)) ([] : List Int)), (7, .v 9 (.slice (.slice (.int .i64))) y1), (8, .v 9 (.slice .bool) x16), (9, .v 9 (.slice (.int .i64)) x17)]) h (fun x17 h => ?_)
          refine W_blk ?_
          refine W_keep (l := [(6, 9), (7, 9), (8, 9), (9, 9)]) (E' := [(6, .v 9 (.slice (.int .i64)) ([] : List Int)), (7, .v 9 (.slice (.slice (.int .i64))) y1), (8, .v 9 (.slice .bool) x16), (9, .v 9 (.slice (.int .i64)) x17)]) (by kernel_rfl) ?_
          exact W_abs h
        · rw [hb] at h; rw [cond_false] at h
          refine W_skip ?_
          refine W_blk ?_
          refine W_keep (l := [(6, 9), (7, 9), (8, 9), (9, 9)]) (E' := [(6, .v 9 (.slice (.int .i64)) ([] : List Int)), (7, .v 9 (.slice (.slice (.int .i64))) y1), (8, .v 9 (.slice .bool) x12), (9, .v 9 (.slice (.int .i64)) x15)]) (by kernel_rfl) ?_
          exact W_abs h
      · rw [hb] at h; rw [cond_false] at h
        refine W_exit rfl ?_
        refine W_keep (l := [(6, 9), (8, 9)]) (E' := [(6, .v 9 (.slice (.int .i64)) ([] : List Int)), (8, .v 9 (.slice .bool) x12)]) (by kernel_rfl) ?_
        exact j1 x12 h.back

noncomputable def dag_Comes (p0 : Int) (p1 : List D_dag_Arrow) (p2 : Int) (p3 : Int) : Option Bool :=
  (dag_Reach p0 p1 p2).bind fun y1 =>
  (slices_Contains_int_int y1 p3).bind fun y2 =>
  some y2
theorem dag_Comes.ok {p0 : Int} {p1 : List D_dag_Arrow} {p2 : Int} {p3 : Int} {r : Bool} (h : dag_Comes p0 p1 p2 p3 = some r) : ACall prog 37 [⟨.int .i64, p0⟩, ⟨.slice T_dag_Arrow, p1⟩, ⟨.int .i64, p2⟩, ⟨.int .i64, p3⟩] [⟨0, .bool, r⟩] := by
  replace h := Leads.of h
  unfold dag_Comes at h
  refine acall_of func37 (by kernel_rfl) rfl (by kernel_rfl) fun w0 F0 hw0 => ?_
  refine W_seq ?_
  refine W_region mixed tys_ok (sup := []) (l := [(0, 0), (1, 0), (2, 0), (3, 0)]) (E' := [(0, .v 0 (.int .i64) p0), (1, .v 0 (.slice T_dag_Arrow) p1), (2, .v 0 (.int .i64) p2), (3, .v 0 (.int .i64) p3)]) (obs := []) (by kernel_rfl) (trivial) ?_
  refine W_seq ?_
  obtain ⟨y1, ey1, h⟩ := h.bind
  obtain ⟨y2, ey2, h⟩ := h.bind
  refine W_region mixed tys_ok (sup := [.res [(9, ⟨9, .slice (.int .i64), y1⟩)], .res [(0, ⟨0, .bool, y2⟩)]]) (l := [(8, 0)]) (E' := [(8, .v 0 .bool y2)]) (obs := [ACall prog 35 [⟨.int .i64, p0⟩, ⟨.slice T_dag_Arrow, p1⟩, ⟨.int .i64, p2⟩] [⟨9, .slice (.int .i64), y1⟩], ACall prog 88 [⟨.slice (.int .i64), y1⟩, ⟨.int .i64, p3⟩] [⟨0, .bool, y2⟩]]) (by kernel_rfl) (⟨dag_Reach.ok ey1, slices_Contains_int_int.ok ey2⟩) ?_
  refine W_keep (l := [(8, 0)]) (E' := [(8, .v 0 .bool y2)]) (by kernel_rfl) ?_
  replace h : y2 = r := h
  subst h
  exact W_ret tys_ok hw0 (by kernel_rfl) (by kernel_rfl)

noncomputable def fund_Funds (p0 : D_api_State) (p1 : Int) (p2 : Int) : Option Bool :=
  (state_Coin p0 p1).bind fun y1 =>
  (bif y1 then state_Coin p0 p2 else some false).bind fun y2 =>
  (bif y1 && y2 then state_CoinArrows p0 else some ([] : List D_dag_Arrow)).bind fun y3 =>
  (bif y1 && y2 then dag_Comes (p0.1.length : Int) y3 p1 p2 else some false).bind fun y4 =>
  bnd ((y1 && y2) && y4) fun x5 =>
  some x5
theorem fund_Funds.ok {p0 : D_api_State} {p1 : Int} {p2 : Int} {r : Bool} (h : fund_Funds p0 p1 p2 = some r) : ACall prog 58 [⟨T_api_State, p0⟩, ⟨.int .i64, p1⟩, ⟨.int .i64, p2⟩] [⟨0, .bool, r⟩] := by
  replace h := Leads.of h
  unfold fund_Funds at h
  refine acall_of func58 (by kernel_rfl) rfl (by kernel_rfl) fun w0 F0 hw0 => ?_
  refine W_seq ?_
  refine W_region mixed tys_ok (sup := []) (l := [(1, 0), (2, 0), (3, 0)]) (E' := [(1, .v 0 (.int .i64) p1), (2, .v 0 (.int .i64) p2), (3, .box 0 T_api_State p0)]) (obs := []) (by kernel_rfl) (trivial) ?_
  refine W_seq ?_
  obtain ⟨y1, ey1, h⟩ := h.bind
  obtain ⟨y2, ey2, h⟩ := h.bind
  obtain ⟨y3, ey3, h⟩ := h.bind
  obtain ⟨y4, ey4, h⟩ := h.bind
  refine W_region mixed tys_ok (sup := [.res [(0, ⟨0, .bool, y1⟩)], .res [(0, ⟨0, .bool, y2⟩)], .res [(0, ⟨9, .slice T_dag_Arrow, y3⟩)], .res [(0, ⟨0, .bool, y4⟩)]]) (l := [(6, 0)]) (E' := [(6, .v 0 .bool ((y1 && y2) && y4))]) (obs := [ACall prog 94 [⟨T_api_State, p0⟩, ⟨.int .i64, p1⟩] [⟨0, .bool, y1⟩], y1 = true → ACall prog 94 [⟨T_api_State, p0⟩, ⟨.int .i64, p2⟩] [⟨0, .bool, y2⟩], (y1 && y2) = true → ACall prog 101 [⟨T_api_State, p0⟩] [⟨9, .slice T_dag_Arrow, y3⟩], (y1 && y2) = true → ACall prog 37 [⟨.int .i64, (p0.1.length : Int)⟩, ⟨.slice T_dag_Arrow, y3⟩, ⟨.int .i64, p1⟩, ⟨.int .i64, p2⟩] [⟨0, .bool, y4⟩]]) (by kernel_rfl) (⟨state_Coin.ok ey1, fun hc => state_Coin.ok (bif_some ey2 hc), fun hc => state_CoinArrows.ok (bif_some ey3 hc), fun hc => dag_Comes.ok (bif_some ey4 hc)⟩) ?_
  refine W_gen (x := (y1 && y2) && y4) (En := fun x5 => [(6, .v 0 .bool x5)]) h (fun x5 h => ?_)
  refine W_keep (l := [(6, 0)]) (E' := [(6, .v 0 .bool x5)]) (by kernel_rfl) ?_
  replace h : x5 = r := h
  subst h
  exact W_ret tys_ok hw0 (by kernel_rfl) (by kernel_rfl)

noncomputable def fund_Closes (p0 : D_api_State) (p1 : Int) (p2 : Int) : Option Bool :=
  (state_Coin p0 p1).bind fun y1 =>
  (bif !(y1 && (p1 == p2)) then fund_Funds p0 p2 p1 else some false).bind fun y2 =>
  bnd ((y1 && (p1 == p2)) || y2) fun x3 =>
  some x3
theorem fund_Closes.ok {p0 : D_api_State} {p1 : Int} {p2 : Int} {r : Bool} (h : fund_Closes p0 p1 p2 = some r) : ACall prog 42 [⟨T_api_State, p0⟩, ⟨.int .i64, p1⟩, ⟨.int .i64, p2⟩] [⟨0, .bool, r⟩] := by
  replace h := Leads.of h
  unfold fund_Closes at h
  refine acall_of func42 (by kernel_rfl) rfl (by kernel_rfl) fun w0 F0 hw0 => ?_
  refine W_seq ?_
  refine W_region mixed tys_ok (sup := []) (l := [(1, 0), (2, 0), (3, 0)]) (E' := [(1, .v 0 (.int .i64) p1), (2, .v 0 (.int .i64) p2), (3, .box 0 T_api_State p0)]) (obs := []) (by kernel_rfl) (trivial) ?_
  refine W_seq ?_
  obtain ⟨y1, ey1, h⟩ := h.bind
  obtain ⟨y2, ey2, h⟩ := h.bind
  refine W_region mixed tys_ok (sup := [.res [(0, ⟨0, .bool, y1⟩)], .res [(0, ⟨0, .bool, y2⟩)]]) (l := [(6, 0)]) (E' := [(6, .v 0 .bool ((y1 && (p1 == p2)) || y2))]) (obs := [ACall prog 94 [⟨T_api_State, p0⟩, ⟨.int .i64, p1⟩] [⟨0, .bool, y1⟩], (!(y1 && (p1 == p2))) = true → ACall prog 58 [⟨T_api_State, p0⟩, ⟨.int .i64, p2⟩, ⟨.int .i64, p1⟩] [⟨0, .bool, y2⟩]]) (by kernel_rfl) (⟨state_Coin.ok ey1, fun hc => fund_Funds.ok (bif_some ey2 hc)⟩) ?_
  refine W_gen (x := (y1 && (p1 == p2)) || y2) (En := fun x3 => [(6, .v 0 .bool x3)]) h (fun x3 h => ?_)
  refine W_keep (l := [(6, 0)]) (E' := [(6, .v 0 .bool x3)]) (by kernel_rfl) ?_
  replace h : x3 = r := h
  subst h
  exact W_ret tys_ok hw0 (by kernel_rfl) (by kernel_rfl)

end Go.Tom
