/- Reading operands. -/
import Derived.Test.YtagcgcpapjidcaaTomE
set_option linter.unusedVariables false
set_option linter.unusedSimpArgs false
namespace Go.Tom
open Go

theorem Out.refl {w : World} {F : Nat → Prop} (h : ∀ b, F b → b < w.heap.size) : Out w F w F [] :=
  ⟨RowKit.Below.refl _ _, fun _ h => h, h, fun _ h _ => h, List.nodup_nil, fun b hb => by cases hb⟩

/-- In kept memory a place is read as it is written. -/
theorem Place.rep0 {P : Program} {w : World} {F : Nat → Prop} : ∀ (p : List Step) {τ : Ty} {x : τ.den} {cs : List Value} {l : Option (Nat × Nat)} {t : TV} {cs' : List Value} {l' : Option (Nat × Nat)},
    Rep P τ 0 w F x cs [] → Place w p τ cs l t.1 cs' l' → get p τ x = some t → Rep P t.1 0 w F t.2 cs' [] := by
  intro p
  induction p with
  | nil =>
    intro τ x cs l t cs' l' h hp hg
    obtain ⟨ht, rfl, rfl⟩ := hp
    simp only [get, Option.some.injEq] at hg
    subst hg
    exact h
  | cons s p ih =>
    intro τ x cs l t cs' l' h hp hg
    cases s with
    | idx i => cases τ with
      | slice e =>
        obtain ⟨b, o, len, cap, cs1, hcs, hi0, hil, hcl1, hat1, hp⟩ := hp
        obtain ⟨a, cap', css, Os, hcs', hcap, hcl, hol, hr, hs⟩ := h
        rw [hcs] at hcs'
        simp only [List.cons.injEq, Value.slice.injEq, and_true] at hcs'
        obtain ⟨rfl, hlen, rfl⟩ := hcs'
        subst hlen
        rcases hs with ⟨_, hO, hx | ⟨b', o', hab, hF, hat⟩⟩ | ⟨hn0, _⟩ | ⟨hn0, _⟩
        · subst hx; simp at hil
        · simp only [Option.some.injEq, Addr.mk.injEq, and_true] at hab
          obtain ⟨rfl, rfl⟩ := hab
          have hi1 : i.toNat < css.length := by omega
          have hi2 : i.toNat < Os.length := by omega
          obtain ⟨hri, hli⟩ := hr i.toNat hil hi1 hi2
          obtain rfl : cs1 = css[i.toNat] := hat1.unique (hat i.toNat hi1) (by omega)
          have hrd : rd e.zero x i = x[i.toNat] := by simp [rd, List.getD, List.getElem?_eq_getElem hil]
          simp only [get] at hg
          rw [hrd] at hg
          have hz := hri.zero_nil
          rw [hz] at hri
          exact ih hri hp hg
        · omega
        · omega
      | _ => exact hp.elim
    | fld f => cases τ with
      | st a =>
        obtain ⟨a1, ha1, hp⟩ := hp
        simp only [get] at hg
        cases hfg : fldGet a x f with
        | none => rw [hfg] at hg; simp at hg
        | some t1 =>
          rw [hfg] at hg
          simp only at hg
          have hty := fldGet_ty hfg
          rw [ha1] at hty
          obtain rfl := Option.some.inj hty
          obtain ⟨pre, csf, post, Of, Or, rfl, hpl, hcl, hof, hrf, _⟩ := fieldFocus (a := a) h hfg
          have hmid : ((pre ++ (csf ++ post)).drop (fldOff a f)).take t1.1.sz = csf := by
            rw [← hpl, List.drop_left, ← hcl, List.take_left]
          rw [hmid] at hp
          have hz := hrf.zero_nil
          rw [hz] at hrf
          exact ih hrf hp hg
      | _ => exact hp.elim

theorem Place.ty {w : World} : ∀ (p : List Step) {τ τ' : Ty} {x : τ.den} {cs cs' : List Value} {l l' : Option (Nat × Nat)} {t : TV}, Place w p τ cs l τ' cs' l' → get p τ x = some t → τ' = t.1 := by
  intro p
  induction p with
  | nil =>
    intro τ τ' x cs cs' l l' t h hg
    simp only [get, Option.some.injEq] at hg
    subst hg
    exact h.1
  | cons s p ih =>
    intro τ τ' x cs cs' l l' t h hg
    cases s with
    | idx i => cases τ with
      | slice e => obtain ⟨b, o, len, cap, cs1, _, _, _, _, _, hp⟩ := h; exact ih hp hg
      | _ => exact h.elim
    | fld f => cases τ with
      | st a =>
        obtain ⟨a1, ha1, hp⟩ := h
        simp only [get] at hg
        cases hfg : fldGet a x f with
        | none => rw [hfg] at hg; simp at hg
        | some t1 =>
          rw [hfg] at hg
          simp only at hg
          have hty := fldGet_ty hfg
          rw [ha1] at hty
          obtain rfl := Option.some.inj hty
          exact ih hp hg
      | _ => exact h.elim

section
variable {P : Program} {N : Nat} {w0 w : World} {F0 F : Nat → Prop} {G : Nat × Bool → Bool} {e : Nat → S} {a : Act} {O : Nat → List Nat}

/-- All that is kept, and all that is owned. -/
def FC (F : Nat → Prop) (O : Nat → List Nat) : Nat → Prop := fun b => F b ∨ ∃ t, b ∈ O t

theorem Fr.fc (h : Fr P N w0 F0 G e a.tmps w F O) : Ext w F w (FC F O) :=
  ⟨fun b hb => .inl hb, fun _ _ => rfl, fun b hb => by
    rcases hb with hb | ⟨t, hb⟩
    · exact h.lt b hb
    · exact (h.own t b hb).2.1⟩

theorem gIn_mem : ∀ {l : List (Nat × Bool)} {g : Nat × Bool}, gIn l g = true → g ∈ l
  | [], g, h => by simp [gIn] at h
  | (j, b) :: r, g, h => by
    simp only [gIn, Bool.or_eq_true, Bool.and_eq_true, beq_iff_eq] at h
    rcases h with ⟨h1, h2⟩ | h
    · obtain ⟨g1, g2⟩ := g
      have := Nat.eq_of_beq_eq_true h1
      simp only at this h2
      subst this; subst h2
      exact List.mem_cons_self ..
    · exact List.mem_cons_of_mem _ (gIn_mem h)

/-- An operand stands for what is said of it. -/
structure RSOk (P : Program) (G : Nat × Bool → Bool) (w : World) (F : Nat → Prop) (e : Nat → S) (a : Act) (O : Nat → List Nat) (r : RS) (v : Value) : Prop where
  rep : ∃ Or, SRep P G w F a.tmps e v r.s Or ∧ ∀ b ∈ Or, ∃ t, b ∈ O t
  rt : r.rt = (roots r.s).map e
  slot : ∀ V, r.t = some V → e V = r.s ∧ v = a.tmps.getD V undef

theorem opd_ok (h : Fr P N w0 F0 G e a.tmps w F O) {ok : List (Nat × Bool)} (hok : ∀ g ∈ ok, G g = true) (x : Operand) : RSOk P G w F e a O (opd ok e x) (a.eval x) := by
  cases x with
  | tmp t =>
    simp only [opd]
    have hr := h.rep t
    split
    · rename_i g s he
      rw [he] at hr
      split
      · rename_i hg
        exact ⟨⟨_, hr.1 (hok g (gIn_mem hg)), fun b hb => ⟨t, hb⟩⟩, rfl, fun V hV => by simp at hV⟩
      · exact ⟨⟨[], rfl, fun b hb => by cases hb⟩, rfl, fun V hV => by simp at hV⟩
    · rename_i he
      exact ⟨⟨_, hr, fun b hb => ⟨t, hb⟩⟩, rfl, fun V hV => by simp only [Option.some.injEq] at hV; subst hV; exact ⟨rfl, rfl⟩⟩
  | const c =>
    refine ⟨⟨[], ?_, fun b hb => by cases hb⟩, ?_, fun V hV => by simp [opd] at hV⟩
    · show SRep P G w F a.tmps e c (constS c) []
      cases c <;> try exact rfl
      · exact ⟨[_], rfl, rfl, rfl⟩
      · exact ⟨[_], rfl, rfl, rfl⟩
      · exact ⟨[_], rfl, rfl, rfl⟩
      · rename_i ad len cap
        cases ad with
        | some _ => exact rfl
        | none => cases len with
          | succ _ => exact rfl
          | zero => cases cap with
            | succ _ => exact rfl
            | zero => exact ⟨rfl, rfl⟩
    · show [] = (roots (constS c)).map e
      cases c <;> try rfl
      rename_i ad len cap
      cases ad with
      | some _ => rfl
      | none => cases len with
        | succ _ => rfl
        | zero => cases cap <;> rfl
  | global g => exact ⟨⟨[], rfl, fun b hb => by cases hb⟩, rfl, fun V hV => by simp [opd] at hV⟩
  | func f => exact ⟨⟨[], ⟨rfl, rfl⟩, fun b hb => by cases hb⟩, rfl, fun V hV => by simp [opd] at hV⟩

theorem TupRep.at {rs : List (Option Res)} {vs : List Value} {O : List Nat} (h : TupRep P w F rs vs O) : ∀ {i : Nat} {r : Res}, rs[i]? = some (some r) → ∃ v cs Oi, vs[i]? = some v ∧ VS r.τ v cs ∧ Rep P r.τ r.n w F r.x cs Oi ∧ ∀ b ∈ Oi, b ∈ O := by
  induction rs generalizing vs O with
  | nil => intro i r hi; simp at hi
  | cons q rs ih =>
    intro i r hi
    cases q with
    | none =>
      obtain ⟨v, vs', rfl, h⟩ := h
      cases i with
      | zero => simp at hi
      | succ i => exact ih h (by simpa using hi)
    | some q =>
      obtain ⟨v, vs', cs, O1, O2, rfl, rfl, h1, h2, h3⟩ := h
      cases i with
      | zero =>
        simp only [List.getElem?_cons_zero, Option.some.injEq] at hi
        subst hi
        exact ⟨v, cs, O1, rfl, h1, h2, fun b hb => List.mem_append_left _ hb⟩
      | succ i =>
        obtain ⟨v', cs', Oi, k1, k2, k3, k4⟩ := ih h3 (by simpa using hi)
        exact ⟨v', cs', Oi, k1, k2, k3, fun b hb => List.mem_append_right _ (k4 b hb)⟩

/-- The value of a root, in memory that is kept for the while. -/
theorem Fr.root (h : Fr P N w0 F0 G e a.tmps w F O) {V : Nat} {τ : Ty} {cs : List Value} {l : Option (Nat × Nat)} (hr : RootAt w (e V) (a.tmps.getD V undef) τ cs l) :
    (∀ n σ (x : σ.den), e V = .v n σ x ∨ e V = .box n σ x → ∃ O', (O' = O V ∧ l = none ∨ ∃ b, O V = b :: O' ∧ l = some (b, 0)) ∧ ∃ hσ : σ = τ, Rep P τ n w F (hσ ▸ x) cs O') := by
  intro n σ x hx
  have hrep := h.rep V
  rcases hx with hx | hx
  · rw [hx] at hr hrep
    obtain ⟨rfl, hv, rfl⟩ := hr
    obtain ⟨cs2, hv2, hrep⟩ := hrep
    have : cs = cs2 := by
      have h1 := hrep.length
      cases σ <;> simp only [VS] at hv hv2 <;> first
        | (rw [hv] ; rw [hv2]; done)
        | (rw [hv] at hv2; have := Value.agg.inj hv2; simpa using congrArg Array.toList this)
        | (subst hv; subst hv2; rfl)
    subst this
    exact ⟨O V, .inl ⟨rfl, rfl⟩, rfl, hrep⟩
  · rw [hx] at hr hrep
    obtain ⟨rfl, b, el, hv, hb, rfl⟩ := hr
    obtain ⟨b', cs2, el', O', hv', hb', hrep, hO⟩ := hrep
    rw [hv] at hv'
    simp only [Value.pointer.injEq, Option.some.injEq, Addr.mk.injEq, and_true] at hv'
    subst hv'
    rw [hb] at hb'
    simp only [Option.some.injEq, Obj.cells.injEq, and_true] at hb'
    have : cs = cs2 := by simpa using congrArg Array.toList hb'.1
    subst this
    exact ⟨O', .inr ⟨b, hO, rfl⟩, rfl, hrep⟩

theorem VS.inj' {τ : Ty} {v v' : Value} {cs : List Value} (h : VS τ v cs) (h' : VS τ v' cs) : v = v' := by
  cases τ <;> simp only [VS] at h h'
  case st => rw [h, h']
  all_goals (rw [h] at h'; simpa using h')

theorem VS.inj {τ : Ty} {v : Value} {cs cs' : List Value} (h : VS τ v cs) (h' : VS τ v cs') : cs = cs' := by
  cases τ <;> simp only [VS] at h h' <;> first
    | (rw [h, h']; done)
    | (rw [h] at h'; have := Value.agg.inj h'; simpa using congrArg Array.toList this)

/-- The value that is read off an operand, in memory that is kept for the while. -/
theorem rdv_sound (h : Fr P N w0 F0 G e a.tmps w F O) {r : RS} {v : Value} (hr : RSOk P G w F e a O r v) {t : TV} (hv : rdv r = some t) : ∃ cs, VS t.1 v cs ∧ Rep P t.1 0 w (FC F O) t.2 cs [] := by
  obtain ⟨rt, rs, rr⟩ := r
  obtain ⟨⟨Or, hrep, hOr⟩, hrt, hslot⟩ := hr
  simp only at hrep hrt
  have hfc := h.fc
  cases rs <;> simp only [rdv, reduceCtorEq] at hv
  · -- v
    rename_i n τ x
    simp only [Option.some.injEq] at hv
    subst hv
    obtain ⟨cs, h1, h2⟩ := hrep
    exact ⟨cs, h1, h2.freeze hfc fun b hb => .inr (hOr b hb)⟩
  · -- bor
    rename_i V p
    simp only [roots, List.map_cons, List.map_nil] at hrt
    subst hrt
    obtain ⟨_, ⟨hrs, _, _⟩ | ⟨τ', cs', l, hvs, τ, cs, l0, hroot, hp⟩⟩ := hrep
    · cases heV : e V <;> rw [heV] at hv hrs <;> simp [rdv, passive] at hv hrs
    · have key : ∀ n σ (x : σ.den), (e V = .v n σ x ∨ e V = .box n σ x) → get p σ x = some t → ∃ cs, VS t.1 v cs ∧ Rep P t.1 0 w (FC F O) t.2 cs [] := by
        intro n σ x hx hg
        obtain ⟨O', hO', rfl, hrep⟩ := h.root hroot n σ x hx
        have hf : Rep P σ 0 w (FC F O) x cs [] := hrep.freeze hfc fun b hb => .inr ⟨V, by
          rcases hO' with ⟨rfl, _⟩ | ⟨b', hb', _⟩
          · exact hb
          · rw [hb']; exact List.mem_cons_of_mem _ hb⟩
        have hty : τ' = t.1 := by
          have := Place.ty p hp hg
          exact this
        subst hty
        exact ⟨cs', hvs, Place.rep0 p hf hp hg⟩
      cases heV : e V <;> rw [heV] at hv <;> simp only [rdv, reduceCtorEq] at hv
      · exact key _ _ _ (.inl heV) hv
      · exact key _ _ _ (.inr heV) hv
  · -- ext
    rename_i V i
    simp only [roots, List.map_cons, List.map_nil] at hrt
    subst hrt
    obtain ⟨_, rs', vs, hrs, hT, hi⟩ := hrep
    rw [hrs] at hv
    simp only [rdv] at hv
    split at hv
    · rename_i r hri
      simp only [Option.some.injEq] at hv
      subst hv
      have hV := h.rep V
      rw [hrs, hT] at hV
      obtain ⟨vs', hvs', htup⟩ := hV
      obtain rfl := Value.tuple.inj hvs'
      obtain ⟨v', cs, Oi, k1, k2, k3, k4⟩ := htup.at hri
      simp only [List.getElem?_toArray] at hi
      rw [k1] at hi
      obtain rfl := Option.some.inj hi
      exact ⟨cs, k2, k3.freeze hfc fun b hb => .inr ⟨V, k4 b hb⟩⟩
    · simp at hv
end
end Go.Tom
