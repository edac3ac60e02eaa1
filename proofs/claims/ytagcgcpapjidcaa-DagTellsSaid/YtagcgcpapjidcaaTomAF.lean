/- What the printed proofs use. -/
import Derived.Test.YtagcgcpapjidcaaTomAE
set_option linter.unusedVariables false
set_option linter.unusedSimpArgs false
namespace Go.Tom
open Go

/-- Where this does not hold there is no answer. -/
@[irreducible] def ass {ρ : Type} (p : Prop) [Decidable p] (o : Option ρ) : Option ρ := if p then o else none
/-- A value has a name. -/
def bnd {α ρ : Type} (x : α) (f : α → Option ρ) : Option ρ := f x

theorem Leads.ass {ρ : Type} {q : ρ → Prop} {p : Prop} [Decidable p] {x : Option ρ} (h : Leads q (Tom.ass p x)) : p ∧ Leads q x := by
  unfold Tom.ass at h
  exact h.ite

theorem Leads.map {α ρ : Type} {q : ρ → Prop} {g : α → ρ} {o : Option α} (h : Leads q (o.map g)) : Leads (fun x => q (g x)) o := by
  cases o with
  | none => exact h.elim
  | some y => exact h

theorem Leads.of {ρ : Type} {o : Option ρ} {r : ρ} (h : o = some r) : Leads (fun x => x = r) o := by rw [h]; exact rfl

/-- What a loop's body leads to: another round, or the answer. -/
def Back (P : Program) (N : Nat) (w0 : World) (F0 : Nat → Prop) {σ ρ : Type} (En : σ → Env) (K : Act → World → Prop) (q : ρ → Prop) : σ ⊕ ρ → Prop
  | .inl y => ∀ a w, Hold P N w0 F0 (En y) a w → K a w
  | .inr r => q r

section
variable {P : Program} {N : Nat} {w0 : World} {F0 : Nat → Prop} {Q : Exit → Act → World → Prop} {k : List KI} {E : Env}

theorem W_loop' {σ ρ : Type} {step : σ → Option (σ ⊕ ρ)} {En : σ → Env} {c : Code} {q : ρ → Prop} {x : σ} (h : Leads q (loopM step x))
    (hround : ∀ x (K : Act → World → Prop), Leads (Back P N w0 F0 En K q) (step x) → W P N w0 F0 Q (.code c :: .abs K :: k) (En x)) : W P N w0 F0 Q (.code (.loop c) :: k) (En x) := by
  refine W_loop h fun x K hh => hround x K ?_
  cases hs : step x with
  | none => rw [hs] at hh; exact hh.elim
  | some s => rw [hs] at hh; cases s <;> exact hh

theorem Leads.back {σ ρ : Type} {En : σ → Env} {K : Act → World → Prop} {q : ρ → Prop} {o : Option ρ} (h : Leads (Back P N w0 F0 En K q) (o.map .inr)) : Leads q o := h.map

theorem W_join {α ρ : Type} {q : ρ → Prop} {o : Option ρ} (h : Leads q o) {c : Code} {Ej : α → Env} {p : α → Option ρ} (hj : ∀ x, Leads q (p x) → W P N w0 F0 Q k (Ej x))
    (hmain : (∀ x, Leads q (p x) → W P N w0 F0 Q k (Ej x)) → W P N w0 F0 Q (.code c :: k) E) : W P N w0 F0 Q (.code c :: k) E := hmain hj

theorem W_gen {α ρ : Type} {q : ρ → Prop} {f : α → Option ρ} {x : α} {En : α → Env} (h : Leads q (bnd x f)) (hk : ∀ x, Leads q (f x) → W P N w0 F0 Q k (En x)) : W P N w0 F0 Q k (En x) := hk x h
end

theorem bif_some {α : Type} {c : Bool} {o o' : Option α} {y : α} (h : (bif c then o else o') = some y) (hc : c = true) : o = some y := by subst hc; exact h

/-- Of a flat result it is all the same how deep it is owned. -/
theorem ACall.flat {P : Program} {f : FuncId} {args : List TV} {n m : Nat} {τ : Ty} {x : τ.den} (hf : τ.flat = true) (h : ACall P f args [⟨n, τ, x⟩]) : ACall P f args [⟨m, τ, x⟩] := by
  refine ⟨h.1, fun w F vs hlt ha => (h.2 w F vs hlt ha).mono fun e w' he => ?_⟩
  obtain ⟨vr, F', O, h1, h2, h3⟩ := he
  refine ⟨vr, F', O, h1, ?_, h3⟩
  obtain ⟨v, vs', cs, O1, O2, k1, k2, k3, k4, k5⟩ := h2
  obtain ⟨k6, k7⟩ := k4.flat hf
  subst k6
  exact ⟨v, vs', cs, [], O2, k1, k2, k3, k7 _ _ _, k5⟩
end Go.Tom
