/- A slice that is held against nil: of an empty one either may be. -/
import Derived.Test.YtagcgcpapjidcaaTomAI
set_option linter.unusedVariables false
set_option linter.unusedSimpArgs false
namespace Go.Tom
open Go

section
variable {P : Program} {N : Nat} {w0 : World} {F0 : Nat → Prop} {Q : Exit → Act → World → Prop} {k : List KI} {E : Env}

theorem run_nilcmp {w : World} {T : TypeId} {e : Ty} (hT : TyOk P T (.slice e)) {ad : Option Addr} {len cap : Nat} {xo yo : Operand} :
    (do eqGuard .eql T xo yo (.slice ad len cap) (.slice none 0 0); binOp .eql T (.slice ad len cap) (.slice none 0 0)).run P w = .ok (.bool ad.isNone) w := by
  obtain ⟨E, hu, hE⟩ := hT.slice
  have hq : (Op.equal T (.slice ad len cap) (.slice none 0 0)).run P w = .ok ad.isNone w := by
    have : Op.maxDepth = 9999 + 1 := rfl
    unfold Op.equal
    rw [this]
    unfold Op.equalIn
    cases ad <;> simp [run_underlying hu]
  simp [eqGuard, binOp, hq]

/-- THE SLICE IN SLOT x IS HELD AGAINST nil. -/
theorem W_nilcmp {tys : Tys} (ht : tys.ok P = true) {id : Nat} {A : Array Oper} {o0 o1 : Oper} (hA : A = #[o0, o1]) {x d : Nat} {T : TypeId} {yy : TypeId} (hop : o1.op = .binOp .eql T (.tmp x) (.const (.slice none 0 0)) yy) (hg : o1.guard = none) (hd : o1.dst = some d)
    {E1 : Env} (h0 : stepO P tys N [o0, o1] o0 ⟨E.drop, [], [], []⟩ = some ⟨E1, [], [], []⟩) {n : Nat} {e : Ty} {xs : List e.den} (hx : E1.at x = .v n (.slice e) xs) (hT : tyAt tys T = some (.slice e)) (hf : free [o0, o1] N E1 [] d (.v 0 .bool true) = true)
    (h : ∀ β : Bool, (β = true → xs = []) → W P N w0 F0 Q k (E1.set d (.v 0 .bool β))) : W P N w0 F0 Q (.code (.region id A false) :: k) E := by
  intro a w hh
  obtain ⟨hdf, Gff, F, O, hfr⟩ := hh
  obtain ⟨O', hdr⟩ := hfr.drop (Gf2 := Gf [])
  subst hA
  obtain ⟨f1, f2, f3, f4⟩ := free_spec hf
  refine wp_region ?_
  show wpOps P #[o0, o1] _ (List.range 2) a w
  rw [show List.range 2 = [0, 1] from rfl]
  simp only [wpOps, List.getElem?_toArray, List.getElem?_cons_zero, List.getElem?_cons_succ]
  refine stepO_sound (A := #[o0, o1]) ht h0 (fun p hp => by cases hp) (fun g c hgc => by simp [Gs.at] at hgc) hdr fun v w1 F1 O1 hG1 hf1 => ?_
  have hw : Region.wanted o1 (yielded #[o0, o1] (a.put o0.dst v).tmps) = true := by simp [Region.wanted, hg]
  rw [if_pos hw]
  left
  have hr := hf1.rep x
  rw [hx] at hr
  obtain ⟨cs, hvs, ad, cap, css, Os, rfl, hcap, hcl, hol, hre, hs⟩ := hr
  have hv : [Value.slice ad xs.length cap] = [(a.put o0.dst v).tmps.getD x undef] := hvs
  simp only [List.cons.injEq, and_true] at hv
  have hex : execOp (a.put o0.dst v).eval o1 = (do pure (.value (← (do eqGuard .eql T (.tmp x) (.const (.slice none 0 0)) (.slice ad xs.length cap) (.slice none 0 0); binOp .eql T (.slice ad xs.length cap) (.slice none 0 0))))) := by
    have h1 : (a.put o0.dst v).eval (.tmp x) = .slice ad xs.length cap := by rw [hv]; rfl
    have h2 : (a.put o0.dst v).eval (.const (.slice none 0 0)) = .slice none 0 0 := rfl
    simp only [execOp, hop, h1, h2]
  have hy : Yld P w1 F1 (Gf []) E1.at (a.put o0.dst v) (do eqGuard .eql T (.tmp x) (.const (.slice none 0 0)) (.slice ad xs.length cap) (.slice none 0 0); binOp .eql T (.slice ad xs.length cap) (.slice none 0 0)) (.v 0 .bool ad.isNone) :=
    Yld.same hf1 (run_nilcmp (w := w1) (tyAt_ok ht hT)) ⟨[.bool ad.isNone], rfl, rfl, rfl⟩
  refine QOk.yld (w := w1) hex hy _ _ fun v2 w2 F2 On ho hs2 => ?_
  have hp := hf1.put (d := d) (s := .v 0 .bool ad.isNone) f1 f2 ho hs2 (by simp [roots])
  refine h ad.isNone (fun hn => ?_) ((a.put o0.dst v).put o1.dst v2) w2 ⟨?_, Gf [], F2, (fun t => if t = d then On else O1 t), ?_⟩
  · cases ad with
    | some ad => simp at hn
    | none =>
      rcases hs with ⟨_, _, hs | ⟨b, o, hbo, _⟩⟩ | ⟨_, hc0, _⟩ | ⟨_, b, o, hbo, _⟩
      · exact hs
      · simp at hbo
      · exact List.eq_nil_of_length_eq_zero (by omega)
      · simp at hbo
  · rw [hd]; cases o0.dst <;> exact hdf
  · rw [hd]
    have he : (E1.set d (.v 0 .bool ad.isNone)).at = fun t => if t = d then .v 0 .bool ad.isNone else E1.at t := by funext t; exact Env.at_set ..
    rw [he]
    exact hp
end

/-- A copy of what is empty. -/
theorem clone_nil {α : Type} {xs : List α} {q : List α → Prop} (hx : xs = []) (h : Leads q (ass (((([] : List α).length + xs.length : Nat) : Int) ≤ limA) <| bnd (([] : List α) ++ xs) fun x => some x)) : Leads q (some []) := by
  subst hx
  obtain ⟨_, h⟩ := h.ass
  exact h
end Go.Tom
