/- The types of the program that the proofs name. -/
import Derived.Test.YtgenminnhfokkaaGreatTomAQ
import Derived.Test.YtgenminnhfokkaaGreatGenBack
import Derived.Test.YtgenminnhfokkaaGreatGenExt
import Derived.Test.YtgenminnhfokkaaGreatProg
set_option linter.unusedVariables false
set_option linter.constructorNameAsVariable false
set_option maxRecDepth 100000
namespace Go.Tom
open Go Go.IntKind Go.Proofs.Tryz
abbrev T_r01_Nat : Ty := .st (.slice (.int .i64))
abbrev D_r01_Nat := List Int
abbrev z_r01_Nat : D_r01_Nat := ([] : List Int)
abbrev T_r04_Q : Ty := .st (.prod T_r01_Nat T_r01_Nat)
abbrev D_r04_Q := D_r01_Nat × D_r01_Nat
abbrev z_r04_Q : D_r04_Q := (([] : List Int), ([] : List Int))
abbrev T_api_Ratio : Ty := .st (.prod (.slice (.int .u32)) (.slice (.int .u32)))
abbrev D_api_Ratio := (List Int) × (List Int)
abbrev z_api_Ratio : D_api_Ratio := (([] : List Int), ([] : List Int))
abbrev T_api_Thread : Ty := .st (.prod (.int .i64) (.prod (.int .i64) (.prod (.int .i64) (.prod (.int .i64) (.int .i64)))))
abbrev D_api_Thread := Int × Int × Int × Int × Int
abbrev z_api_Thread : D_api_Thread := ((0 : Int), (0 : Int), (0 : Int), (0 : Int), (0 : Int))
abbrev T_api_Ticket : Ty := .st (.prod .bool (.prod (.int .i64) (.prod (.int .i64) (.prod (.int .i64) (.prod (.int .i64) .bool)))))
abbrev D_api_Ticket := Bool × Int × Int × Int × Int × Bool
abbrev z_api_Ticket : D_api_Ticket := (false, (0 : Int), (0 : Int), (0 : Int), (0 : Int), false)
abbrev T_api_Lock : Ty := .st (.prod .bool (.int .i64))
abbrev D_api_Lock := Bool × Int
abbrev z_api_Lock : D_api_Lock := (false, (0 : Int))
abbrev T_api_State : Ty := .st (.prod (.slice .bool) (.prod (.slice T_api_Ticket) (.prod (.slice T_api_Thread) (.prod (.slice T_api_Lock) (.prod (.slice (.int .i64)) (.int .i64))))))
abbrev D_api_State := (List Bool) × (List D_api_Ticket) × (List D_api_Thread) × (List D_api_Lock) × (List Int) × Int
abbrev z_api_State : D_api_State := (([] : List Bool), ([] : List D_api_Ticket), ([] : List D_api_Thread), ([] : List D_api_Lock), ([] : List Int), (0 : Int))
abbrev T_r13_Arrow : Ty := .st (.prod (.int .i64) (.int .i64))
abbrev D_r13_Arrow := Int × Int
abbrev z_r13_Arrow : D_r13_Arrow := ((0 : Int), (0 : Int))
abbrev T_dag_Arrow : Ty := .st (.prod (.int .i64) (.int .i64))
abbrev D_dag_Arrow := Int × Int
abbrev z_dag_Arrow : D_dag_Arrow := ((0 : Int), (0 : Int))
def tys : Tys := [(3, .int .i64), (4, .bool), (22, .slice .bool), (23, .slice T_api_Ticket), (24, .slice T_api_Thread), (25, .slice T_api_Lock), (26, .slice (.int .i64)), (28, T_api_State), (30, T_api_Thread), (35, T_r01_Nat), (37, T_r04_Q), (39, .int .u64), (43, .slice (.int .u32)), (45, T_api_Ratio), (49, .slice T_r04_Q), (52, .slice T_api_Ratio), (95, T_api_Ticket), (97, .slice T_r13_Arrow), (103, T_api_Lock), (114, .fn (.int .i64) .bool), (124, .int .u32), (133, T_r13_Arrow), (137, .fn T_api_Thread .bool), (148, .slice (.slice (.int .u32))), (176, .fn T_api_Ticket .bool), (179, .fn T_api_Lock .bool), (188, .slice T_dag_Arrow), (195, .slice (.slice (.int .i64))), (198, T_dag_Arrow)]
theorem tys_ok : tys.ok prog = true := by kernel_rfl
theorem mixed : prog.follows .mixedOrders = true := by kernel_rfl
section
variable {N : Nat} {w0 : Start} {F0 : Nat → Prop} {Q : Exit → Act → World → Prop} {k : List KI} {E E' : Env} {ρ : Type} {q : ρ → Prop} {o o' : Option ρ} {fn : Func} {rs : List Res} {c c' : Code} {f : FuncId} {args : List TV} {id : Nat} {draw : Bool} {A : Array Oper} {obs : List Prop}
theorem K (h : W prog N w0 F0 Q k E') (hk : E.keep (lvs E') = some E' := by kernel_rfl) : W prog N w0 F0 Q k E := W_keep hk h
theorem B {σ : Type} {En : σ → Env} {K : Act → World → Prop} {y : σ} (h : Leads (Back prog N w0 F0 En K q) (some (.inl y))) (hk : E.keep (lvs (En y)) = some (En y) := by kernel_rfl) : W prog N w0 F0 Q (.abs K :: k) E := W_keep hk (W_abs h)
theorem C {β : Bool} {x : Operand} (h : Leads q (bif β then o else o')) (h1 : Leads q o → W prog N w0 F0 Q (.code c :: k) E) (h2 : Leads q o' → W prog N w0 F0 Q (.code c' :: k) E) (hc : rdBool (opd [] E.at x) = some β := by kernel_rfl) : W prog N w0 F0 Q (.code (.cond x c c') :: k) E := W_cond hc (fun hb => h1 (h.tt hb)) fun hb => h2 (h.ff hb)
theorem Rt (hp : Plain w0) (hk : (E.keep (resL fn.results.toList rs)).bind (fun E' => retRes tys E'.at fn.results.toList) = some rs := by kernel_rfl) (hd : distinct (resSlots fn.results.toList) = true := by kernel_rfl) : W prog N w0 F0 (bodyPost prog fn (Done prog w0 F0 rs)) (.code .ret :: k) E := W_retK tys_ok hp hk hd
theorem Re (hp : Plain w0) (hk : (E.keep (resL fn.results.toList rs)).bind (fun E' => retRes tys E'.at fn.results.toList) = some rs := by kernel_rfl) (hd : distinct (resSlots fn.results.toList) = true := by kernel_rfl) : W prog N w0 F0 (bodyPost prog fn (Done prog w0 F0 rs)) [] E := W_endK tys_ok hp hk hd
theorem AC (hf : prog.funcs[f]? = some fn) (hb : fn.body = some c) (h : ∀ w0 F0, Plain w0 → W prog fn.ntmps w0 F0 (bodyPost prog fn (Done prog w0 F0 rs)) [.code c] (argEnv 0 args)) (hn : (fn.name == "runtime.NumGoroutine") = false := by kernel_rfl) (hl : (Nat.ble args.length fn.ntmps && Nat.blt fn.ntmps 1048576) = true := by kernel_rfl) : ACall prog f args rs := acall_of hf hn hb hl h
theorem ACo {n : Lv} {t : TV} (hf : prog.funcs[f]? = some fn) (hb : fn.body = some c) (h : ∀ w0 F0, Plain w0 → W prog fn.ntmps w0 F0 (bodyPost prog fn (Done prog w0 F0 rs)) [.code c] ((0, .v n t.1 t.2) :: argEnv 1 args)) (hn : (fn.name == "runtime.NumGoroutine") = false := by kernel_rfl) (hl : (Nat.ble (args.length + 1) fn.ntmps && Nat.blt fn.ntmps 1048576) = true := by kernel_rfl) : OCall prog f n t args rs := ocall_of hf hn hb hl h
theorem ACi {s s' : S} (hf : prog.funcs[f]? = some fn) (hb : fn.body = some c) (h : ∀ w0 F0, Plain w0 → W prog (fn.ntmps + 1048576) w0 F0 (bodyPost prog fn (DoneI prog w0 F0 s' rs)) [.code c] ((0, s) :: argEnv 1 args)) (hn : (fn.name == "runtime.NumGoroutine") = false := by kernel_rfl) (hl : (Nat.ble (args.length + 1) fn.ntmps && Nat.blt fn.ntmps 1048576) = true := by kernel_rfl) : ICall prog f s s' args rs := icall_of hf hn hb hl h
theorem ACm (hf : prog.funcs[f]? = some fn) (hb : fn.body = some c) (h : ∀ w0 F0, Plain w0 → W prog fn.ntmps w0 F0 (bodyPostM Fence.wide 0 prog fn (Done prog w0 F0 rs)) [.code c] (argEnv 0 args)) (hn : (fn.name == "runtime.NumGoroutine") = false := by kernel_rfl) (hl : (Nat.ble args.length fn.ntmps && Nat.blt fn.ntmps 1048576) = true := by kernel_rfl) : ACall prog f args rs := acall_ofM hf hn hb hl h
theorem J0 (h : Leads q o) (p : Option ρ) (Ej : Env) (hj : Leads q p → W prog N w0 F0 Q k Ej) (hm : (Leads q p → W prog N w0 F0 Q k Ej) → W prog N w0 F0 Q (.code c :: k) E) : W prog N w0 F0 Q (.code c :: k) E := hm hj
theorem J1 {α0 : Type} (h : Leads q o) (p : α0 → Option ρ) (Ej : α0 → Env) (hj : ∀ x0, Leads q (p x0) → W prog N w0 F0 Q k (Ej x0)) (hm : (∀ x0, Leads q (p x0) → W prog N w0 F0 Q k (Ej x0)) → W prog N w0 F0 Q (.code c :: k) E) : W prog N w0 F0 Q (.code c :: k) E := hm hj
theorem J2 {α0 α1 : Type} (h : Leads q o) (p : α0 → α1 → Option ρ) (Ej : α0 → α1 → Env) (hj : ∀ x0 x1, Leads q (p x0 x1) → W prog N w0 F0 Q k (Ej x0 x1)) (hm : (∀ x0 x1, Leads q (p x0 x1) → W prog N w0 F0 Q k (Ej x0 x1)) → W prog N w0 F0 Q (.code c :: k) E) : W prog N w0 F0 Q (.code c :: k) E := hm hj
theorem L0 {step : Option (Unit ⊕ ρ)} (h : Leads q (loopM (fun s : Unit => step) ())) (En : Env) (hr : ∀  (K : Act → World → Prop), Leads (Back prog N w0 F0 (fun s : Unit => En) K q) step → W prog N w0 F0 Q (.code c :: .abs K :: k) En) (hk : E.keep (lvs En) = some En := by kernel_rfl) : W prog N w0 F0 Q (.code (.loop c) :: k) E := W_keep hk (W_loop' (En := (fun s : Unit => En)) h fun ⟨⟩ K h => hr  K h)
theorem L1 {α0 : Type} {vx0 : α0} {step : α0 → Option (α0 ⊕ ρ)} (h : Leads q (loopM (fun s : α0 => (step s)) vx0)) (En : α0 → Env) (hr : ∀ x0 (K : Act → World → Prop), Leads (Back prog N w0 F0 (fun s : α0 => (En s)) K q) (step x0) → W prog N w0 F0 Q (.code c :: .abs K :: k) (En x0)) (hk : E.keep (lvs (En vx0)) = some (En vx0) := by kernel_rfl) : W prog N w0 F0 Q (.code (.loop c) :: k) E := W_keep hk (W_loop' (En := (fun s : α0 => (En s))) h fun x0 K h => hr x0 K h)
theorem L2 {α0 α1 : Type} {vx0 : α0} {vx1 : α1} {step : α0 → α1 → Option ((α0 × α1) ⊕ ρ)} (h : Leads q (loopM (fun s : α0 × α1 => (step s.1 s.2)) (vx0, vx1))) (En : α0 → α1 → Env) (hr : ∀ x0 x1 (K : Act → World → Prop), Leads (Back prog N w0 F0 (fun s : α0 × α1 => (En s.1 s.2)) K q) (step x0 x1) → W prog N w0 F0 Q (.code c :: .abs K :: k) (En x0 x1)) (hk : E.keep (lvs (En vx0 vx1)) = some (En vx0 vx1) := by kernel_rfl) : W prog N w0 F0 Q (.code (.loop c) :: k) E := W_keep hk (W_loop' (En := (fun s : α0 × α1 => (En s.1 s.2))) h fun ⟨x0, x1⟩ K h => hr x0 x1 K h)
theorem L3 {α0 α1 α2 : Type} {vx0 : α0} {vx1 : α1} {vx2 : α2} {step : α0 → α1 → α2 → Option ((α0 × α1 × α2) ⊕ ρ)} (h : Leads q (loopM (fun s : α0 × α1 × α2 => (step s.1 s.2.1 s.2.2)) (vx0, vx1, vx2))) (En : α0 → α1 → α2 → Env) (hr : ∀ x0 x1 x2 (K : Act → World → Prop), Leads (Back prog N w0 F0 (fun s : α0 × α1 × α2 => (En s.1 s.2.1 s.2.2)) K q) (step x0 x1 x2) → W prog N w0 F0 Q (.code c :: .abs K :: k) (En x0 x1 x2)) (hk : E.keep (lvs (En vx0 vx1 vx2)) = some (En vx0 vx1 vx2) := by kernel_rfl) : W prog N w0 F0 Q (.code (.loop c) :: k) E := W_keep hk (W_loop' (En := (fun s : α0 × α1 × α2 => (En s.1 s.2.1 s.2.2))) h fun ⟨x0, x1, x2⟩ K h => hr x0 x1 x2 K h)
theorem L4 {α0 α1 α2 α3 : Type} {vx0 : α0} {vx1 : α1} {vx2 : α2} {vx3 : α3} {step : α0 → α1 → α2 → α3 → Option ((α0 × α1 × α2 × α3) ⊕ ρ)} (h : Leads q (loopM (fun s : α0 × α1 × α2 × α3 => (step s.1 s.2.1 s.2.2.1 s.2.2.2)) (vx0, vx1, vx2, vx3))) (En : α0 → α1 → α2 → α3 → Env) (hr : ∀ x0 x1 x2 x3 (K : Act → World → Prop), Leads (Back prog N w0 F0 (fun s : α0 × α1 × α2 × α3 => (En s.1 s.2.1 s.2.2.1 s.2.2.2)) K q) (step x0 x1 x2 x3) → W prog N w0 F0 Q (.code c :: .abs K :: k) (En x0 x1 x2 x3)) (hk : E.keep (lvs (En vx0 vx1 vx2 vx3)) = some (En vx0 vx1 vx2 vx3) := by kernel_rfl) : W prog N w0 F0 Q (.code (.loop c) :: k) E := W_keep hk (W_loop' (En := (fun s : α0 × α1 × α2 × α3 => (En s.1 s.2.1 s.2.2.1 s.2.2.2))) h fun ⟨x0, x1, x2, x3⟩ K h => hr x0 x1 x2 x3 K h)
theorem R (sup : List Sup) (E' : Env) (hobs : AllP obs) (h : W prog N w0 F0 Q k E') (hev : evalR prog tys N A draw E sup (lvs E') = some (E', obs) := by kernel_rfl) : W prog N w0 F0 Q (.code (.region id A draw) :: k) E := W_region mixed tys_ok hev hobs h
theorem R1 {α0 : Type} {vx0 : α0} {g : α0 → Option ρ} (h0 : Leads q (bnd vx0 fun x0 => (g x0))) (sup : List Sup) (En : α0 → Env) (hobs : AllP obs) (h : ∀ x0, Leads q (g x0) → W prog N w0 F0 Q k (En x0)) (hev : evalR prog tys N A draw E sup (lvs (En vx0)) = some ((En vx0), obs) := by kernel_rfl) : W prog N w0 F0 Q (.code (.region id A draw) :: k) E := W_region mixed tys_ok hev hobs (h vx0 h0)
theorem RL (sup : List Sup) (E' : Env) (hobs : AllP obs) (h : W prog N w0 F0 Q k E') (hev : evalRL prog tys N A E sup (lvs E') = some (E', obs) := by kernel_rfl) : W prog N w0 F0 Q (.code (.region id A true) :: k) E := W_regionL mixed tys_ok hev hobs h
theorem RL1 {α0 : Type} {vx0 : α0} {g : α0 → Option ρ} (h0 : Leads q (bnd vx0 fun x0 => (g x0))) (sup : List Sup) (En : α0 → Env) (hobs : AllP obs) (h : ∀ x0, Leads q (g x0) → W prog N w0 F0 Q k (En x0)) (hev : evalRL prog tys N A E sup (lvs (En vx0)) = some ((En vx0), obs) := by kernel_rfl) : W prog N w0 F0 Q (.code (.region id A true) :: k) E := W_regionL mixed tys_ok hev hobs (h vx0 h0)
theorem RL2 {α0 α1 : Type} {vx0 : α0} {vx1 : α1} {g : α0 → α1 → Option ρ} (h0 : Leads q (bnd vx0 fun x0 => (bnd vx1 fun x1 => (g x0 x1)))) (sup : List Sup) (En : α0 → α1 → Env) (hobs : AllP obs) (h : ∀ x0 x1, Leads q (g x0 x1) → W prog N w0 F0 Q k (En x0 x1)) (hev : evalRL prog tys N A E sup (lvs (En vx0 vx1)) = some ((En vx0 vx1), obs) := by kernel_rfl) : W prog N w0 F0 Q (.code (.region id A true) :: k) E := W_regionL mixed tys_ok hev hobs (h vx0 vx1 h0)
end
end Go.Tom
