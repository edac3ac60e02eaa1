/- The operations that read, reckon and make: each does what evalQ says. -/
import Derived.Test.YtagcgcpapjidcaaTomF
set_option linter.unusedVariables false
set_option linter.unusedSimpArgs false
namespace Go.Tom
open Go

section
variable {P : Program} {N : Nat} {w0 w : World} {F0 F : Nat → Prop} {G : Nat × Bool → Bool} {e : Nat → S} {a : Act} {O : Nat → List Nat}

theorem rdk_sound (h : Fr P N w0 F0 G e a.tmps w F O) {r : RS} {v : Value} (hr : RSOk P G w F e a O r v) {t : TV} (hv : rdk r = some t) :
    ∃ cs, VS t.1 v cs ∧ Rep P t.1 0 w F t.2 cs [] := by
  obtain ⟨rt, rs, rr⟩ := r
  obtain ⟨⟨Or, hrep, hOr⟩, hrt, hslot⟩ := hr
  simp only at hrep hrt
  have key : ∀ {n : Nat} {τ : Ty} {x : τ.den} {cs : List Value} {Ov : List Nat}, Rep P τ n w F x cs Ov → (τ.flat || Nat.beq n 0) = true → Rep P τ 0 w F x cs [] := by
    intro n τ x cs Ov h2 hc
    simp only [Bool.or_eq_true] at hc
    rcases hc with hc | hc
    · exact (h2.flat hc).2 _ _ _
    · obtain rfl := Nat.eq_of_beq_eq_true hc
      have := h2.zero_nil
      rwa [this] at h2
  cases rs <;> simp only [rdk, reduceCtorEq] at hv
  · rename_i n τ x
    split at hv
    · rename_i hc
      simp only [Option.some.injEq] at hv
      subst hv
      obtain ⟨cs, h1, h2⟩ := hrep
      exact ⟨cs, h1, key h2 hc⟩
    · simp at hv
  · rename_i V i
    simp only [roots, List.map_cons, List.map_nil] at hrt
    subst hrt
    obtain ⟨_, rs', vs, hrs, hT, hi⟩ := hrep
    rw [hrs] at hv
    simp only [rdk] at hv
    split at hv
    · rename_i r hri
      split at hv
      · rename_i hc
        simp only [Option.some.injEq] at hv
        subst hv
        have hV := h.rep V
        rw [hrs, hT] at hV
        obtain ⟨vs', hvs', htup⟩ := hV
        obtain rfl := Value.tuple.inj hvs'
        obtain ⟨v', cs, Oi, k1, k2, k3, k4⟩ := htup.at hri
        simp only [List.getElem?_toArray] at hi
        rw [k1] at hi
        obtain rfl := Option.some.inj hi
        exact ⟨cs, k2, key k3 hc⟩
      · simp at hv
    · simp at hv

theorem rdk_int (h : Fr P N w0 F0 G e a.tmps w F O) {r : RS} {v : Value} (hr : RSOk P G w F e a O r v) {k : IntKind} {x : Int} (hv : rdk r = some ⟨.int k, x⟩) : v = .int k x := by
  obtain ⟨cs, h1, h2⟩ := rdk_sound h hr hv
  have h1' : cs = [v] := h1
  have h2' : cs = [.int k x] := h2.1
  rw [h1'] at h2'
  exact (List.cons.inj h2').1
theorem rdk_bool (h : Fr P N w0 F0 G e a.tmps w F O) {r : RS} {v : Value} (hr : RSOk P G w F e a O r v) {x : Bool} (hv : rdk r = some ⟨.bool, x⟩) : v = .bool x := by
  obtain ⟨cs, h1, h2⟩ := rdk_sound h hr hv
  have h1' : cs = [v] := h1
  have h2' : cs = [.bool x] := h2.1
  rw [h1'] at h2'
  exact (List.cons.inj h2').1
theorem rdk_str (h : Fr P N w0 F0 G e a.tmps w F O) {r : RS} {v : Value} (hr : RSOk P G w F e a O r v) {x : ByteArray} (hv : rdk r = some ⟨.str, x⟩) : v = .string x := by
  obtain ⟨cs, h1, h2⟩ := rdk_sound h hr hv
  have h1' : cs = [v] := h1
  have h2' : cs = [.string x] := h2.1
  rw [h1'] at h2'
  exact (List.cons.inj h2').1
theorem rdInt_ok (h : Fr P N w0 F0 G e a.tmps w F O) {r : RS} {v : Value} (hr : RSOk P G w F e a O r v) {k : IntKind} {x : Int} (hv : rdInt r = some (k, x)) : v = .int k x := by
  unfold rdInt at hv
  split at hv
  · rename_i k' x' hk
    simp only [Option.some.injEq, Prod.mk.injEq] at hv
    obtain ⟨rfl, rfl⟩ := hv
    exact rdk_int h hr hk
  · simp at hv
theorem rdBool_ok (h : Fr P N w0 F0 G e a.tmps w F O) {r : RS} {v : Value} (hr : RSOk P G w F e a O r v) {x : Bool} (hv : rdBool r = some x) : v = .bool x := by
  unfold rdBool at hv
  split at hv
  · rename_i x' hk
    simp only [Option.some.injEq] at hv
    subst hv
    exact rdk_bool h hr hk
  · simp at hv

/-- What a value op yields: the value, in the same world. -/
def Yld (P : Program) (w : World) (F : Nat → Prop) (G : Nat × Bool → Bool) (e : Nat → S) (a : Act) (m : Sem Value) (s : S) : Prop :=
  ∃ v w' F' On, m.run P w = .ok v w' ∧ Out w F w' F' On ∧ SRep P G w' F' a.tmps e v s On

theorem Yld.same (h : Fr P N w0 F0 G e a.tmps w F O) {m : Sem Value} {s : S} {v : Value} (hm : m.run P w = .ok v w) (hs : SRep P G w F a.tmps e v s []) : Yld P w F G e a m s :=
  ⟨v, w, F, [], hm, Out.refl h.lt, hs⟩

theorem SRep.flat_v {τ : Ty} {x : τ.den} {v : Value} {T : Array Value} {cs : List Value} (h1 : VS τ v cs) (h2 : Rep P τ 0 w F x cs []) : SRep P G w F T e v (.v 0 τ x) [] := ⟨cs, h1, h2⟩

theorem eqGuard_int {op : BinOp} {T : TypeId} {x y : Operand} {k k' : IntKind} {m n : Int} : (eqGuard op T x y (.int k m) (.int k' n)).run P w = .ok () w := by
  cases op <;> rfl
theorem eqGuard_bool {op : BinOp} {T : TypeId} {x y : Operand} {m n : Bool} : (eqGuard op T x y (.bool m) (.bool n)).run P w = .ok () w := by
  cases op <;> rfl
theorem eqGuard_str {op : BinOp} {T : TypeId} {x y : Operand} {m n : ByteArray} : (eqGuard op T x y (.string m) (.string n)).run P w = .ok () w := by
  cases op <;> rfl

theorem binInt_sound {op : BinOp} {k : IntKind} {x y : Int} {sup sup' : List Sup} {s : S} {obs : List Prop} (h : binInt op k x y sup = some (s, obs, sup')) (hobs : ∀ p ∈ obs, p) (hsh : isShift op = false) {T : TypeId} :
    ∃ v, (binOp op T (.int k x) (.int k y)).run P w = .ok v w ∧ SRep P G w F a.tmps e v s [] := by
  cases op <;> simp only [binInt, qv, reduceCtorEq, Option.some.injEq, Prod.mk.injEq] at h <;> first
    | (simp [isShift] at hsh; done)
    | skip
  all_goals
    obtain ⟨rfl, rfl, rfl⟩ := h
  case quo =>
    have hy : y ≠ 0 := hobs _ (List.mem_singleton.2 rfl)
    exact ⟨_, by simp [binOp, Op.intDiv, hy], [_], rfl, rfl, rfl⟩
  case rem =>
    have hy : y ≠ 0 := hobs _ (List.mem_singleton.2 rfl)
    exact ⟨_, by simp [binOp, Op.intDiv, hy], [_], rfl, rfl, rfl⟩
  all_goals exact ⟨_, by simp [binOp, Op.intArith, Op.intCmp, Op.intBits], [_], rfl, rfl, rfl⟩

theorem shf_sound {op : BinOp} {k k' : IntKind} {x y : Int} {sup sup' : List Sup} {s : S} {obs : List Prop} (h : shf op k x y sup = some (s, obs, sup')) (hobs : ∀ p ∈ obs, p) {T : TypeId} :
    ∃ v, (binOp op T (.int k x) (.int k' y)).run P w = .ok v w ∧ SRep P G w F a.tmps e v s [] := by
  cases op <;> simp only [shf, qv, reduceCtorEq, Option.some.injEq, Prod.mk.injEq] at h
  all_goals
    obtain ⟨rfl, rfl, rfl⟩ := h
    have hy : ¬ y < 0 := by have : 0 ≤ y := hobs _ (List.mem_singleton.2 rfl); omega
    exact ⟨_, by simp [binOp, Op.shift, hy], [_], rfl, rfl, rfl⟩

end
end Go.Tom
