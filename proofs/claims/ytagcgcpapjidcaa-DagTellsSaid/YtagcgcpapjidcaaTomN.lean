/- Calls; and the whole of evalQ. -/
import Derived.Test.YtagcgcpapjidcaaTomM
set_option linter.unusedVariables false
set_option linter.unusedSimpArgs false
namespace Go.Tom
open Go

/-- Owned all the way down: no kept memory is looked at. -/
theorem Rep.full {P : Program} : ∀ {τ : Ty} {n : Nat} {w : World} {F F' : Nat → Prop} {x : τ.den} {cs : List Value} {O : List Nat}, τ.data = true → τ.depth ≤ n → Rep P τ n w F x cs O → Rep P τ n w F' x cs O := by
  intro τ
  induction τ with
  | prod a b iha ihb =>
    intro n w F F' x cs O hd hn h
    obtain ⟨cs1, cs2, O1, O2, rfl, rfl, h1, h2, r1, r2⟩ := h
    simp only [Ty.data, Bool.and_eq_true] at hd
    simp only [Ty.depth] at hn
    exact ⟨cs1, cs2, O1, O2, rfl, rfl, h1, h2, iha hd.1 (by omega) r1, ihb hd.2 (by omega) r2⟩
  | st a ih => intro n w F F' x cs O hd hn h; exact ih hd hn h
  | int k => intro n w F F' x cs O _ _ h; exact h
  | bool => intro n w F F' x cs O _ _ h; exact h
  | str => intro n w F F' x cs O _ _ h; exact h
  | slice e ih =>
    intro n w F F' x cs O hd hn h
    simp only [Ty.depth] at hn
    obtain ⟨a, cap, css, Os, rfl, hcap, hcl, hol, hr, hs⟩ := h
    refine ⟨a, cap, css, Os, rfl, hcap, hcl, hol, fun i h h1 h2 => ⟨ih hd (by omega) (hr i h h1 h2).1, (hr i h h1 h2).2⟩, ?_⟩
    rcases hs with ⟨hn0, _⟩ | hs | hs
    · omega
    · exact .inr (.inl hs)
    · exact .inr (.inr hs)
  | cptr a _ => intro n w F F' x cs O hd; simp [Ty.data] at hd
  | fn a r _ _ => intro n w F F' x cs O hd; simp [Ty.data] at hd

/-- WHAT IS OWNED DEEPLY MAY BE OWNED LESS DEEPLY: what is let go is kept from now on. -/
theorem Rep.lower {P : Program} {w : World} {F : Nat → Prop} : ∀ {τ : Ty} {n m : Nat} {x : τ.den} {cs : List Value} {O : List Nat}, Rep P τ n w F x cs O → m ≤ n →
    ∃ O' R, O.Perm (O' ++ R) ∧ ∀ F', Ext w F w F' → (∀ b ∈ R, F' b) → Rep P τ m w F' x cs O' := by
  intro τ
  induction τ with
  | prod a b iha ihb =>
    intro n m x cs O h hm
    obtain ⟨cs1, cs2, O1, O2, rfl, rfl, h1, h2, r1, r2⟩ := h
    obtain ⟨O1', R1, p1, k1⟩ := iha r1 hm
    obtain ⟨O2', R2, p2, k2⟩ := ihb r2 hm
    refine ⟨O1' ++ O2', R1 ++ R2, ?_, fun F' he hR => ⟨cs1, cs2, O1', O2', rfl, rfl, h1, h2, k1 F' he fun b hb => hR b (List.mem_append_left _ hb), k2 F' he fun b hb => hR b (List.mem_append_right _ hb)⟩⟩
    refine (p1.append p2).trans ?_
    simp only [List.append_assoc]
    refine List.Perm.append_left O1' ?_
    rw [← List.append_assoc, ← List.append_assoc]
    exact List.perm_append_comm.append_right R2
  | st a ih => intro n m x cs O h hm; exact ih h hm
  | int k => intro n m x cs O h _; exact ⟨[], [], by rw [h.2]; simp, fun F' _ _ => ⟨h.1, rfl⟩⟩
  | bool => intro n m x cs O h _; exact ⟨[], [], by rw [h.2]; simp, fun F' _ _ => ⟨h.1, rfl⟩⟩
  | str => intro n m x cs O h _; exact ⟨[], [], by rw [h.2]; simp, fun F' _ _ => ⟨h.1, rfl⟩⟩
  | slice e ih =>
    intro n m x cs O h hm
    by_cases hm0 : m = 0
    · subst hm0
      refine ⟨[], O, by simp, fun F' he hR => h.freeze he hR⟩
    · obtain ⟨a, cap, css, Os, rfl, hcap, hcl, hol, hr, hs⟩ := h
      rcases hs with ⟨hn0, _⟩ | ⟨hn0, hc, rfl⟩ | ⟨hn0, b, o, rfl, hat, hown, rfl⟩
      · omega
      · refine ⟨[], [], by simp, fun F' he _ => ⟨a, cap, css, Os, rfl, hcap, hcl, hol, fun i h h1 h2 => absurd h (by omega), .inr (.inl ⟨by omega, hc, rfl⟩)⟩⟩
      · have key : ∀ (xs : List e.den) (css : List (List Value)) (Os : List (List Nat)), css.length = xs.length → Os.length = xs.length →
            (∀ i (h : i < xs.length) (h1 : i < css.length) (h2 : i < Os.length), Rep P e (n - 1) w F xs[i] css[i] Os[i]) →
            ∃ Os' Rs : List (List Nat), Os'.length = xs.length ∧ (Os.flatten).Perm (Os'.flatten ++ Rs.flatten) ∧ ∀ F', Ext w F w F' → (∀ b ∈ Rs.flatten, F' b) →
              ∀ i (h : i < xs.length) (h1 : i < css.length) (h2 : i < Os'.length), Rep P e (m - 1) w F' xs[i] css[i] Os'[i] := by
          intro xs
          induction xs with
          | nil =>
            intro css Os _ hO _
            have : Os = [] := List.eq_nil_of_length_eq_zero (by simpa using hO)
            subst this
            exact ⟨[], [], rfl, by simp, fun F' _ _ i h => absurd h (by simp)⟩
          | cons y xs ihx =>
            intro css Os hc hO hrep
            match css, Os, hc, hO with
            | c :: css, O1 :: Os, hc, hO =>
              obtain ⟨O1', R1, p1, k1⟩ := ih (hrep 0 (by simp) (by simp) (by simp)) (by omega : m - 1 ≤ n - 1)
              obtain ⟨Os', Rs, l1, p2, k2⟩ := ihx css Os (by simpa using hc) (by simpa using hO) (fun i h h1 h2 => hrep (i + 1) (by simpa using h) (by simpa using h1) (by simpa using h2))
              refine ⟨O1' :: Os', R1 :: Rs, by simp [l1], ?_, fun F' he hR i h h1 h2 => ?_⟩
              · simp only [List.flatten_cons]
                simp only [List.getElem_cons_zero] at p1
                refine (p1.append p2).trans ?_
                simp only [List.append_assoc]
                refine List.Perm.append_left O1' ?_
                rw [← List.append_assoc, ← List.append_assoc]
                exact List.perm_append_comm.append_right _
              · cases i with
                | zero => exact k1 F' he fun b hb => hR b (by simp [hb])
                | succ i => exact k2 F' he (fun b hb => hR b (by simp only [List.flatten_cons]; exact List.mem_append_right _ hb)) i (by simpa using h) (by simpa using h1) (by simpa using h2)
        obtain ⟨Os', Rs, l1, p1, k1⟩ := key x css Os hcl hol fun i h h1 h2 => (hr i h h1 h2).1
        refine ⟨b :: Os'.flatten, Rs.flatten, ?_, fun F' he hR => ⟨_, cap, css, Os', rfl, hcap, hcl, l1, fun i h h1 h2 => ⟨k1 F' he hR i h h1 h2, (hr i h h1 (by omega)).2⟩, .inr (.inr ⟨by omega, b, o, rfl, hat, hown, rfl⟩)⟩⟩
        exact List.Perm.cons b p1
  | cptr a _ =>
    intro n m x cs O h hm
    have hO : O = [] := by obtain ⟨b, o, cs', _, _, _, _, _, rfl⟩ := h; rfl
    subst hO
    refine ⟨[], [], by simp, fun F' he _ => ?_⟩
    exact Rep.mono (τ := .cptr a) (n := m) (show Rep P (.cptr a) m w F x cs [] from h) he (fun b hb => by cases hb)
  | fn a r _ _ =>
    intro n m x cs O h hm
    have hO : O = [] := h.1
    subst hO
    refine ⟨[], [], by simp, fun F' he _ => ?_⟩
    exact Rep.mono (τ := .fn a r) (n := m) (show Rep P (.fn a r) m w F x cs [] from h) he (fun b hb => by cases hb)

section
variable {P : Program} {N : Nat} {w0 w : World} {F0 F : Nat → Prop} {G : Nat × Bool → Bool} {e : Nat → S} {a : Act} {O : Nat → List Nat}

theorem ArgsRep.append {ts ts' : List TV} {vs vs' : List Value} (h : ArgsRep P w F ts vs) (h' : ArgsRep P w F ts' vs') : ArgsRep P w F (ts ++ ts') (vs ++ vs') := by
  induction ts generalizing vs with
  | nil => have hv : vs = [] := h; subst hv; exact h'
  | cons t ts ih =>
    obtain ⟨v, vs1, cs, rfl, h1, h2, h3⟩ := h
    exact ⟨v, vs1 ++ vs', cs, rfl, h1, h2, ih h3⟩

theorem ArgsRep.mono {w' : World} {F' : Nat → Prop} {ts : List TV} {vs : List Value} (h : ArgsRep P w F ts vs) (he : Ext w F w' F') : ArgsRep P w' F' ts vs := by
  induction ts generalizing vs with
  | nil => exact h
  | cons t ts ih =>
    obtain ⟨v, vs1, cs, rfl, h1, h2, h3⟩ := h
    exact ⟨v, vs1, cs, rfl, h1, h2.mono he (fun b hb => by cases hb), ih h3⟩

theorem unprod_rep : ∀ {b : Ty} {x : b.den} {vs cs : List Value}, Rep P b 0 w F x cs [] → ArgS b vs cs → ArgsRep P w F (unprod b x) vs := by
  intro b
  induction b with
  | prod a1 b1 iha ihb =>
    intro x vs cs h hs
    obtain ⟨v, vs', c1, c2, rfl, rfl, hl, hv, hs⟩ := hs
    obtain ⟨d1, d2, O1, O2, hd, hO, l1, l2, r1, r2⟩ := h
    have hz1 := r1.zero_nil; have hz2 := r2.zero_nil
    subst hz1; subst hz2
    obtain ⟨rfl, rfl⟩ := List.append_inj hd (by omega)
    exact ⟨v, vs', c1, rfl, hv, r1, ihb r2 hs⟩
  | int k => intro x vs cs h hs; obtain ⟨v, rfl, hv⟩ := hs; exact ⟨v, [], cs, rfl, hv, h, rfl⟩
  | bool => intro x vs cs h hs; obtain ⟨v, rfl, hv⟩ := hs; exact ⟨v, [], cs, rfl, hv, h, rfl⟩
  | str => intro x vs cs h hs; obtain ⟨v, rfl, hv⟩ := hs; exact ⟨v, [], cs, rfl, hv, h, rfl⟩
  | slice k _ => intro x vs cs h hs; obtain ⟨v, rfl, hv⟩ := hs; exact ⟨v, [], cs, rfl, hv, h, rfl⟩
  | st k _ => intro x vs cs h hs; obtain ⟨v, rfl, hv⟩ := hs; exact ⟨v, [], cs, rfl, hv, h, rfl⟩
  | cptr k _ => intro x vs cs h hs; obtain ⟨v, rfl, hv⟩ := hs; exact ⟨v, [], cs, rfl, hv, h, rfl⟩
  | fn k r _ _ => intro x vs cs h hs; obtain ⟨v, rfl, hv⟩ := hs; exact ⟨v, [], cs, rfl, hv, h, rfl⟩

/-- The variables that a closure captures: addresses of memory that is kept for the while. -/
theorem caps_rep (h : Fr P N w0 F0 G e a.tmps w F O) : ∀ {caps : List Nat} {cl : List TV}, capsTV (caps.map e) = some cl → ArgsRep P w (FC F O) cl (caps.map fun t => a.tmps.getD t undef)
  | [], cl, hc => by simp only [List.map_nil, capsTV, Option.some.injEq] at hc; subst hc; rfl
  | t :: caps, cl, hc => by
    simp only [List.map_cons] at hc ⊢
    have hr := h.rep t
    cases ht : e t <;> rw [ht] at hc <;> try (simp [capsTV] at hc; done)
    · rename_i n τ x
      cases τ <;> try (simp [capsTV] at hc; done)
      simp only [capsTV, Option.map_eq_some_iff] at hc
      obtain ⟨cl', hc, rfl⟩ := hc
      rw [ht] at hr
      obtain ⟨cs, h1, b, o, cs', rfl, hF, hat, hl, hrep, hO⟩ := hr
      exact ⟨_, _, [_], rfl, h1, ⟨b, o, cs', rfl, .inl hF, hat, hl, hrep.mono h.fc (fun b hb => by cases hb), rfl⟩, caps_rep h hc⟩
    · rename_i n τ x
      simp only [capsTV, Option.map_eq_some_iff] at hc
      obtain ⟨cl', hc, rfl⟩ := hc
      rw [ht] at hr
      obtain ⟨b, cs, el, O', h1, h2, h3, h4⟩ := hr
      refine ⟨_, _, [_], rfl, rfl, ⟨b, 0, cs, ?_, .inr ⟨t, by rw [h4]; exact List.mem_cons_self ..⟩, at_heap h2, h3.length, h3.freeze h.fc fun b hb => .inr ⟨t, by rw [h4]; exact List.mem_cons_of_mem _ hb⟩, rfl⟩, caps_rep h hc⟩
      rw [h1]

theorem argTV_sound (h : Fr P N w0 F0 G e a.tmps w F O) {tys : Tys} {T : TypeId} {r : RS} {v : Value} (hr : RSOk P G w F e a O r v) {sup sup' : List Sup} {t : TV} {obs : List Prop}
    (hev : argTV P tys T r sup = some (t, obs, sup')) (hobs : ∀ p ∈ obs, p) : ∃ cs, VS t.1 v cs ∧ Rep P t.1 0 w (FC F O) t.2 cs [] := by
  unfold argTV at hev
  split at hev
  · split at hev
    · simp only [Option.some.injEq, Prod.mk.injEq] at hev
      obtain ⟨rfl, rfl, rfl⟩ := hev
      obtain ⟨⟨Or, ⟨_, hrep⟩, _⟩, _⟩ := hr
      exact ⟨[v], rfl, none, 0, [], [], by rw [hrep]; rfl, Nat.le_refl _, rfl, rfl, fun i hi => absurd hi (by simp), .inl ⟨rfl, rfl, .inl rfl⟩⟩
    · simp at hev
  · rename_i tt f caps rts
    obtain ⟨⟨Or, ⟨_, hrep⟩, _⟩, hrt, _⟩ := hr
    have hrt' : rts = caps.map e := hrt
    subst hrt'
    split at hev
    · rename_i a1 b1 g sup1 cl hcl
      simp only [Option.some.injEq, Prod.mk.injEq] at hev
      obtain ⟨rfl, rfl, rfl⟩ := hev
      have hcall : ∀ x y, g x = some y → ACall P f (unprod a1 x ++ cl) [⟨9, b1, y⟩] := hobs _ (List.mem_singleton.2 rfl)
      have hcaps := caps_rep h hcl
      refine ⟨[v], rfl, rfl, f, #[], _, by rw [hrep], fun w' F' he x vs cs' y hg hx hs => ?_⟩
      obtain ⟨hf, hc⟩ := hcall x y hg
      refine ⟨hf, ?_⟩
      have hargs := ArgsRep.append (unprod_rep hx hs) (ArgsRep.mono hcaps he)
      have := hc w' F' _ he.lt hargs
      have hre : (#[] ++ vs.toArray ++ (caps.map fun t => a.tmps.getD t undef).toArray : Array Value) = (vs ++ caps.map fun t => a.tmps.getD t undef).toArray := by simp
      rw [hre]
      refine this.mono fun ed w'' ⟨vr, F'', O'', he', hres, hout⟩ => ?_
      obtain ⟨v1, vs1, c1, O1, O2, rfl, rfl, g1, g2, rfl, rfl⟩ := hres
      exact ⟨v1, c1, F'', _, he', g1, g2, by simpa using hout⟩
    · simp at hev
  · split at hev
    · rename_i t' hv
      simp only [Option.some.injEq, Prod.mk.injEq] at hev
      obtain ⟨rfl, rfl, rfl⟩ := hev
      exact rdv_sound h hr hv
    · simp at hev

theorem argsTV_sound (h : Fr P N w0 F0 G e a.tmps w F O) {tys : Tys} : ∀ {rs : List RS} {Ts : List TypeId} {vs : List Value} {sup sup' : List Sup} {ts : List TV} {obs : List Prop}, RSsOk P G w F e a O rs vs →
    argsTV P tys Ts rs sup = some (ts, obs, sup') → (∀ p ∈ obs, p) → ArgsRep P w (FC F O) ts vs
  | [], Ts, vs, sup, sup', ts, obs, hr, hev, hobs => by
    simp only [argsTV, Option.some.injEq, Prod.mk.injEq] at hev
    obtain ⟨rfl, rfl, rfl⟩ := hev
    exact hr
  | r :: rs, [], vs, sup, sup', ts, obs, hr, hev, hobs => by simp [argsTV] at hev
  | r :: rs, T :: Ts, vs, sup, sup', ts, obs, hr, hev, hobs => by
    obtain ⟨v, vs', rfl, hv, hr⟩ := hr
    simp only [argsTV] at hev
    split at hev
    · rename_i t o1 sup1 h1
      split at hev
      · rename_i ts' o2 sup2 h2
        simp only [Option.some.injEq, Prod.mk.injEq] at hev
        obtain ⟨rfl, rfl, rfl⟩ := hev
        obtain ⟨cs, k1, k2⟩ := argTV_sound h hv h1 fun p hp => hobs p (List.mem_append_left _ hp)
        exact ⟨v, vs', cs, rfl, k1, k2, argsTV_sound h hr h2 fun p hp => hobs p (List.mem_append_right _ hp)⟩
      · simp at hev
    · simp at hev

theorem argsTV_kept (h : Fr P N w0 F0 G e a.tmps w F O) {tys : Tys} : ∀ {rs : List RS} {Ts : List TypeId} {vs : List Value} {sup sup' : List Sup} {ts : List TV} {obs : List Prop}, RSsOk P G w F e a O rs vs →
    argsTV P tys Ts rs sup = some (ts, obs, sup') → rs.all argKept = true → ArgsRep P w F ts vs
  | [], Ts, vs, sup, sup', ts, obs, hr, hev, hk => by
    simp only [argsTV, Option.some.injEq, Prod.mk.injEq] at hev
    obtain ⟨rfl, rfl, rfl⟩ := hev
    exact hr
  | r :: rs, [], vs, sup, sup', ts, obs, hr, hev, hk => by simp [argsTV] at hev
  | r :: rs, T :: Ts, vs, sup, sup', ts, obs, hr, hev, hk => by
    obtain ⟨v, vs', rfl, hv, hr⟩ := hr
    simp only [List.all_cons, Bool.and_eq_true] at hk
    simp only [argsTV] at hev
    split at hev
    · rename_i t o1 sup1 h1
      split at hev
      · rename_i ts' o2 sup2 h2
        simp only [Option.some.injEq, Prod.mk.injEq] at hev
        obtain ⟨rfl, rfl, rfl⟩ := hev
        have key : ∃ cs, VS t.1 v cs ∧ Rep P t.1 0 w F t.2 cs [] := by
          have hk1 := hk.1
          unfold argTV at h1
          split at h1
          · split at h1
            · simp only [Option.some.injEq, Prod.mk.injEq] at h1
              obtain ⟨rfl, rfl, rfl⟩ := h1
              obtain ⟨⟨Or, ⟨_, hrep⟩, _⟩, _⟩ := hv
              exact ⟨[v], rfl, none, 0, [], [], by rw [hrep]; rfl, Nat.le_refl _, rfl, rfl, fun i hi => absurd hi (by simp), .inl ⟨rfl, rfl, .inl rfl⟩⟩
            · simp at h1
          · simp [argKept] at hk1
          · split at h1
            · rename_i t' hrd
              simp only [Option.some.injEq, Prod.mk.injEq] at h1
              obtain ⟨rfl, rfl, rfl⟩ := h1
              refine rdk_sound h hv ?_
              -- what is kept reads alike by both
              obtain ⟨rt, rs1, rr⟩ := r
              cases rs1 <;> simp only [argKept, Bool.false_eq_true] at hk1
              · simp only [rdv, Option.some.injEq] at hrd
                simp [rdk, hk1, hrd]
              · cases rr with
                | nil => simp [argKept] at hk1
                | cons s0 rr =>
                  cases rr with
                  | cons _ _ => simp [argKept] at hk1
                  | nil =>
                    cases s0 <;> try (simp [argKept] at hk1; done)
                    rename_i i rs2
                    simp only [argKept] at hk1
                    simp only [rdv] at hrd
                    simp only [rdk]
                    split at hrd
                    · rename_i r2 hri
                      simp only [hri] at hk1 ⊢
                      rw [if_pos hk1]
                      exact hrd
                    · simp at hrd
              · simp [rdv] at hrd
            · simp at h1
        obtain ⟨cs, k1, k2⟩ := key
        exact ⟨v, vs', cs, rfl, k1, k2, argsTV_kept h hr h2 hk.2⟩
      · simp at hev
    · simp at hev

/-- A result at the depth that is said of it. -/
def lowR (q : Nat × Res) : Res := ⟨q.1, q.2.τ, q.2.x⟩

theorem res_low {w' : World} {F1 : Nat → Prop} : ∀ {rs : List (Nat × Res)} {vr : List Value} {O1 : List Nat}, ResRep P w' F1 (rs.map (·.2)) vr O1 → lowered rs = true →
    ∃ O' R, O1.Perm (O' ++ R) ∧ ∀ F'', Ext w' F1 w' F'' → (∀ b ∈ R, F'' b) → ResRep P w' F'' (rs.map lowR) vr O'
  | [], vr, O1, h, _ => by
    obtain ⟨rfl, rfl⟩ := h
    exact ⟨[], [], by simp, fun _ _ _ => ⟨rfl, rfl⟩⟩
  | (m, r) :: rs, vr, O1, h, hl => by
    simp only [List.map_cons] at h
    obtain ⟨v, vs', cs, Oa, Ob, rfl, rfl, h1, h2, h3⟩ := h
    simp only [lowered, Bool.and_eq_true] at hl
    obtain ⟨O1', R1, p1, k1⟩ := h2.lower (Nat.le_of_ble_eq_true hl.1)
    obtain ⟨O2', R2, p2, k2⟩ := res_low h3 hl.2
    refine ⟨O1' ++ O2', R1 ++ R2, ?_, fun F'' he hR => ⟨v, vs', cs, O1', O2', rfl, rfl, h1, k1 F'' he fun b hb => hR b (List.mem_append_left _ hb), k2 F'' he fun b hb => hR b (List.mem_append_right _ hb)⟩⟩
    refine (p1.append p2).trans ?_
    simp only [List.append_assoc]
    refine List.Perm.append_left O1' ?_
    rw [← List.append_assoc, ← List.append_assoc]
    exact List.perm_append_comm.append_right R2

theorem res_fresh {w' : World} {F1 : Nat → Prop} : ∀ {rs : List (Nat × Res)} {vr : List Value} {O1 : List Nat}, ResRep P w' F1 (rs.map (·.2)) vr O1 → allFresh rs = true →
    ∃ O' R, O1.Perm (O' ++ R) ∧ ∀ F'' : Nat → Prop, (∀ b, F'' b → b < w'.heap.size) → (∀ b ∈ R, F'' b) → ResRep P w' F'' (rs.map lowR) vr O'
  | [], vr, O1, h, _ => by
    obtain ⟨rfl, rfl⟩ := h
    exact ⟨[], [], by simp, fun _ _ _ => ⟨rfl, rfl⟩⟩
  | (m, r) :: rs, vr, O1, h, hl => by
    simp only [List.map_cons] at h
    obtain ⟨v, vs', cs, Oa, Ob, rfl, rfl, h1, h2, h3⟩ := h
    simp only [allFresh, Bool.and_eq_true] at hl
    have h2' : Rep P r.τ r.n w' (fun _ => False) r.x cs Oa := h2.full hl.1.1.1 (Nat.le_of_ble_eq_true hl.1.1.2)
    obtain ⟨O1', R1, p1, k1⟩ := h2'.lower (Nat.le_of_ble_eq_true hl.1.2)
    obtain ⟨O2', R2, p2, k2⟩ := res_fresh h3 hl.2
    refine ⟨O1' ++ O2', R1 ++ R2, ?_, fun F'' hlt hR => ⟨v, vs', cs, O1', O2', rfl, rfl, h1, k1 F'' ⟨fun _ hb => hb.elim, fun _ _ => rfl, hlt⟩ fun b hb => hR b (List.mem_append_left _ hb), k2 F'' hlt fun b hb => hR b (List.mem_append_right _ hb)⟩⟩
    refine (p1.append p2).trans ?_
    simp only [List.append_assoc]
    refine List.Perm.append_left O1' ?_
    rw [← List.append_assoc, ← List.append_assoc]
    exact List.perm_append_comm.append_right R2

theorem tup_of_res {w' : World} {F1 : Nat → Prop} : ∀ {rs : List Res} {vr : List Value} {O1 : List Nat}, ResRep P w' F1 rs vr O1 → TupRep P w' F1 (rs.map some) vr O1
  | [], vr, O1, h => h
  | r :: rs, vr, O1, h => by
    obtain ⟨v, vs', cs, Oa, Ob, rfl, rfl, h1, h2, h3⟩ := h
    exact ⟨v, vs', cs, Oa, Ob, rfl, rfl, h1, h2, tup_of_res h3⟩

theorem resS_rep {w' : World} {F1 : Nat → Prop} {T : Array Value} {rs : List (Nat × Res)} {vr : List Value} {O1 : List Nat} (h : ResRep P w' F1 (rs.map lowR) vr O1) : SRep P G w' F1 T e (tupled vr) (resS rs) O1 := by
  have gen : (∀ q, rs ≠ [q]) → resS rs = .tup (rs.map fun q => some (lowR q)) ∧ tupled vr = .tuple vr.toArray := by
    intro hne
    match rs, h with
    | [], h => obtain ⟨rfl, _⟩ := h; exact ⟨rfl, rfl⟩
    | [q], _ => exact absurd rfl (hne q)
    | q :: q' :: rs, h =>
      obtain ⟨v, vs', cs, Oa, Ob, rfl, rfl, h1, h2, v', vs'', cs', Oa', Ob', rfl, _⟩ := h
      exact ⟨rfl, rfl⟩
  by_cases hs : ∃ q, rs = [q]
  · obtain ⟨⟨m, r⟩, rfl⟩ := hs
    obtain ⟨v, vs', cs, Oa, Ob, rfl, rfl, h1, h2, rfl, rfl⟩ := h
    rw [List.append_nil]
    exact ⟨cs, h1, h2⟩
  · obtain ⟨h1, h2⟩ := gen fun q hq => hs ⟨q, hq⟩
    rw [h1, h2]
    have := tup_of_res h
    rw [List.map_map] at this
    exact ⟨vr, rfl, this⟩

/-- What an operation does, whatever comes behind it. -/
def QOk (P : Program) (G : Nat × Bool → Bool) (w : World) (F : Nat → Prop) (e : Nat → S) (a : Act) (o : Oper) (s : S) : Prop :=
  ∀ (next : Act → World → Prop) (Q : Exit → Act → World → Prop), (∀ v w' F' On, Out w F w' F' On → SRep P G w' F' a.tmps e v s On → next (a.put o.dst v) w') → o.wp P a w next Q

theorem QOk.yld {o : Oper} {s : S} {m : Sem Value} (ho : execOp a.eval o = (do pure (.value (← m)))) (hy : Yld P w F G e a m s) : QOk P G w F e a o s := by
  obtain ⟨v, w', F', On, hm, hout, hrep⟩ := hy
  intro next Q hn
  unfold Oper.wp
  rw [ho]
  simp only [Sem.run_bind, hm, Result.andThen_ok, Sem.run_pure, Oper.upon]
  exact hn v w' F' On hout hrep

theorem QOk.val {o : Oper} {s : S} {v : Value} (h : Fr P N w0 F0 G e a.tmps w F O) (ho : execOp a.eval o = pure (.value v)) (hrep : SRep P G w F a.tmps e v s []) : QOk P G w F e a o s := by
  intro next Q hn
  unfold Oper.wp
  rw [ho]
  simp only [Sem.run_pure, Oper.upon]
  exact hn v w F [] (Out.refl h.lt) hrep

theorem Yld.freeze {m : Sem Value} {n : Nat} {τ : Ty} {x : τ.den} (hy : Yld P w F G e a m (.v n τ x)) : Yld P w F G e a m (.v 0 τ x) := by
  obtain ⟨v, w', F', On, hm, ho, cs, h1, h2⟩ := hy
  have hext : Ext w' F' w' (fun b => F' b ∨ b ∈ On) := ⟨fun _ hb => .inl hb, fun _ _ => rfl, fun b hb => hb.elim (ho.lt b) fun hb => (ho.new b hb).2.1⟩
  refine ⟨v, w', fun b => F' b ∨ b ∈ On, [], hm, ⟨ho.below, fun b hb => .inl (ho.sub b hb), hext.lt, fun b hb hlt => ?_, List.nodup_nil, fun b hb => by cases hb⟩, cs, h1, h2.freeze hext fun b hb => .inr hb⟩
  rcases hb with hb | hb
  · exact ho.old b hb hlt
  · have := (ho.new b hb).1; omega

theorem run_callFunc {f : FuncId} (hf : Fun P f) (vs : Array Value) : (callFunc f vs).run P w = .ok (.enter f vs) w := by
  obtain ⟨fn, h1, h2, h3⟩ := hf
  unfold callFunc
  simp only [Sem.run_bind, run_program, Result.andThen_ok, h1, h2, h3, Bool.false_eq_true, if_false]
  rfl

/-- The world behind a call, and what is kept in it. -/
theorem call_out {Fc : Nat → Prop} (hlt : ∀ b, F b → b < w.heap.size) {w' : World} {F1 : Nat → Prop} {O1 O' R : List Nat} (ho : Out w Fc w' F1 O1) (hp : O1.Perm (O' ++ R)) :
    Out w F w' (fun b => F b ∨ (F1 b ∧ w.heap.size ≤ b) ∨ b ∈ R) O' := by
  have hsz := ho.below.size
  have hnd := hp.nodup_iff.1 ho.nodup
  have hO' : ∀ b ∈ O', b ∈ O1 := fun b hb => hp.mem_iff.2 (List.mem_append_left _ hb)
  have hR : ∀ b ∈ R, b ∈ O1 := fun b hb => hp.mem_iff.2 (List.mem_append_right _ hb)
  refine ⟨ho.below, fun b hb => .inl hb, fun b hb => ?_, fun b hb hlt' => ?_, (List.nodup_append.1 hnd).1, fun b hb => ?_⟩
  · rcases hb with hb | ⟨hb, _⟩ | hb
    · have := hlt b hb; omega
    · exact ho.lt b hb
    · exact (ho.new b (hR b hb)).2.1
  · rcases hb with hb | ⟨_, hb⟩ | hb
    · exact hb
    · omega
    · have := (ho.new b (hR b hb)).1; omega
  · obtain ⟨n1, n2, n3⟩ := ho.new b (hO' b hb)
    refine ⟨n1, n2, fun hc => ?_⟩
    rcases hc with hc | ⟨hc, _⟩ | hc
    · have := hlt b hc; omega
    · exact n3 hc
    · exact (List.nodup_append.1 hnd).2.2 b hb b hc rfl

theorem evCall_sound (h : Fr P N w0 F0 G e a.tmps w F O) {tys : Tys} {f : FuncId} {Ts : List TypeId} {args : List RS} {vs : List Value} (hargs : RSsOk P G w F e a O args vs) {sup sup' : List Sup} {s : S} {obs : List Prop}
    (hev : evCall P tys f Ts args [] sup = some (s, obs, sup')) (hobs : ∀ p ∈ obs, p) {o : Oper} (ho : (execOp a.eval o).run P w = (callFunc f vs.toArray).run P w) : QOk P G w F e a o s := by
  unfold evCall at hev
  split at hev
  · rename_i ts o1 rs sup1 h1
    split at hev
    · rename_i hc
      simp only [Option.some.injEq, Prod.mk.injEq] at hev
      obtain ⟨rfl, rfl, rfl⟩ := hev
      have hcall : ACall P f ts (rs.map (·.2)) := by
        have := hobs (ACall P f (ts ++ []) (rs.map (·.2))) (List.mem_append_right _ (List.mem_singleton.2 rfl))
        simpa using this
      obtain ⟨hf, hcall⟩ := hcall
      intro next Q hn
      unfold Oper.wp
      rw [ho, run_callFunc hf, Oper.upon_enter]
      simp only [Bool.or_eq_true, Bool.and_eq_true] at hc
      rcases hc with hc | ⟨hc1, hc2⟩
      · have hA := argsTV_sound h hargs h1 fun p hp => hobs p (List.mem_append_left _ hp)
        refine (hcall w (FC F O) vs h.fc.lt hA).mono fun ed w' ⟨vr, F1, O1, he, hres, hout⟩ => ?_
        subst he
        obtain ⟨O', R, hp, hk⟩ := res_fresh hres hc
        have hout' := call_out (F := F) h.lt hout hp
        exact hn _ w' _ O' hout' (resS_rep (hk _ hout'.lt fun b hb => .inr (.inr hb)))
      · have hA := argsTV_kept h hargs h1 hc1
        refine (hcall w F vs h.lt hA).mono fun ed w' ⟨vr, F1, O1, he, hres, hout⟩ => ?_
        subst he
        obtain ⟨O', R, hp, hk⟩ := res_low hres hc2
        have hout' := call_out (F := F) h.lt hout hp
        refine hn _ w' _ O' hout' (resS_rep (hk _ ⟨fun b hb => ?_, fun _ _ => rfl, hout'.lt⟩ fun b hb => .inr (.inr hb)))
        by_cases hlt : b < w.heap.size
        · exact .inl (hout.old b hb hlt)
        · exact .inr (.inl ⟨hb, by omega⟩)
    · simp at hev
  · simp at hev

theorem prodOf_leaf {τ : Ty} (h : τ.isProd = false) (ts : List TV) : prodOf τ ts = (match ts with | [t] => cast? τ t | _ => none) := by
  cases τ <;> first
    | (simp [Ty.isProd] at h; done)
    | (cases ts with
       | nil => rfl
       | cons t ts => cases ts <;> rfl)

theorem prodOf_rep : ∀ {b : Ty} {x : b.den} {ts : List TV} {vs : List Value} {Fx : Nat → Prop}, prodOf b ts = some x → ArgsRep P w Fx ts vs → ∃ cs, Rep P b 0 w Fx x cs [] ∧ ArgS b vs cs := by
  intro b
  have leaf : ∀ {τ : Ty} {x : τ.den} {ts : List TV} {vs : List Value} {Fx : Nat → Prop}, (match ts with | [t] => cast? τ t | _ => none : Option τ.den) = some x → ArgsRep P w Fx ts vs → ∃ v cs, vs = [v] ∧ VS τ v cs ∧ Rep P τ 0 w Fx x cs [] := by
    intro τ x ts vs Fx hp h
    match ts, hp, h with
    | [t], hp, h =>
      have := cast?_eq hp
      subst this
      obtain ⟨v, vs', cs, rfl, h1, h2, rfl⟩ := h
      exact ⟨v, cs, rfl, h1, h2⟩
    | [], hp, _ => simp at hp
    | _ :: _ :: _, hp, _ => simp at hp
  induction b with
  | prod a1 b1 iha ihb =>
    intro x ts vs Fx hp h
    cases ts with
    | nil => simp [prodOf] at hp
    | cons t ts =>
      simp only [prodOf] at hp
      split at hp
      · rename_i x1 x2 e1 e2
        simp only [Option.some.injEq] at hp
        subst hp
        have := cast?_eq e1
        subst this
        obtain ⟨v, vs', c1, rfl, k1, k2, k3⟩ := h
        obtain ⟨c2, r2, s2⟩ := ihb e2 k3
        exact ⟨c1 ++ c2, ⟨c1, c2, [], [], rfl, rfl, k2.length, r2.length, k2, r2⟩, v, vs', c1, c2, rfl, rfl, k2.length, k1, s2⟩
      · simp at hp
  | int k => intro x ts vs Fx hp h; obtain ⟨v, cs, rfl, k1, k2⟩ := leaf (τ := .int k) (by rw [← prodOf_leaf rfl]; exact hp) h; exact ⟨cs, k2, v, rfl, k1⟩
  | bool => intro x ts vs Fx hp h; obtain ⟨v, cs, rfl, k1, k2⟩ := leaf (τ := .bool) (by rw [← prodOf_leaf rfl]; exact hp) h; exact ⟨cs, k2, v, rfl, k1⟩
  | str => intro x ts vs Fx hp h; obtain ⟨v, cs, rfl, k1, k2⟩ := leaf (τ := .str) (by rw [← prodOf_leaf rfl]; exact hp) h; exact ⟨cs, k2, v, rfl, k1⟩
  | slice k _ => intro x ts vs Fx hp h; obtain ⟨v, cs, rfl, k1, k2⟩ := leaf (τ := .slice k) (by rw [← prodOf_leaf rfl]; exact hp) h; exact ⟨cs, k2, v, rfl, k1⟩
  | st k _ => intro x ts vs Fx hp h; obtain ⟨v, cs, rfl, k1, k2⟩ := leaf (τ := .st k) (by rw [← prodOf_leaf rfl]; exact hp) h; exact ⟨cs, k2, v, rfl, k1⟩
  | cptr k _ => intro x ts vs Fx hp h; obtain ⟨v, cs, rfl, k1, k2⟩ := leaf (τ := .cptr k) (by rw [← prodOf_leaf rfl]; exact hp) h; exact ⟨cs, k2, v, rfl, k1⟩
  | fn k r _ _ => intro x ts vs Fx hp h; obtain ⟨v, cs, rfl, k1, k2⟩ := leaf (τ := .fn k r) (by rw [← prodOf_leaf rfl]; exact hp) h; exact ⟨cs, k2, v, rfl, k1⟩

theorem evCallFn_sound (h : Fr P N w0 F0 G e a.tmps w F O) {tys : Tys} {b r : Ty} {g : b.den → Option r.den} {n : Nat} {vf : Value} {Of : List Nat} {csf : List Value} (hvf : VS (.fn b r) vf csf) (hg : Rep P (.fn b r) n w F g csf Of)
    {Ts : List TypeId} {args : List RS} {vs : List Value} (hargs : RSsOk P G w F e a O args vs) {sup sup' : List Sup} {s : S} {obs : List Prop}
    (hev : evCallFn P tys b r g Ts args sup = some (s, obs, sup')) (hobs : ∀ p ∈ obs, p) {o : Oper} (ho : (execOp a.eval o).run P w = (do let d ← Deferred.ofValue vf vs.toArray; invoke d.target d.args).run P w) : QOk P G w F e a o s := by
  unfold evCallFn at hev
  split at hev
  · rename_i ts o1 m r' y sup1 h1
    split at hev
    · rename_i x hx
      split at hev
      · rename_i y' hy
        have := cast?_eq hy
        simp only [Sigma.mk.injEq] at this
        obtain ⟨rfl, hyy⟩ := this
        have hyy := eq_of_heq hyy
        subst hyy
        split at hev
        · rename_i hc
          simp only [Option.some.injEq, Prod.mk.injEq] at hev
          obtain ⟨rfl, rfl, rfl⟩ := hev
          simp only [Bool.and_eq_true] at hc
          obtain ⟨⟨hc1, hc2⟩, hc3⟩ := hc
          have hgx : g x = some y := hobs _ (List.mem_append_right _ (List.mem_singleton.2 rfl))
          have hA := argsTV_sound h hargs h1 fun p hp => hobs p (List.mem_append_left _ hp)
          obtain ⟨cs, hrx, hsx⟩ := prodOf_rep hx hA
          obtain ⟨rfl, f, first, cap, rfl, hk⟩ := hg
          have hvf' : [Value.func (.func f) first cap] = [vf] := hvf
          simp only [List.cons.injEq, and_true] at hvf'
          subst hvf'
          obtain ⟨hf, hcall⟩ := hk w (FC F O) h.fc x vs cs y hgx hrx hsx
          intro next Q hn
          unfold Oper.wp
          rw [ho]
          have hrun : (do let d ← Deferred.ofValue (.func (.func f) first cap) vs.toArray; invoke d.target d.args : Sem Next).run P w = .ok (.enter f (first ++ vs.toArray ++ cap)) w := by
            simp only [Deferred.ofValue, Sem.run_bind, Sem.run_pure, Result.andThen_ok, invoke]
            exact run_callFunc hf _
          rw [hrun, Oper.upon_enter]
          refine hcall.mono fun ed w' ⟨v, cs'', F1, O1, he, hv, hrep, hout⟩ => ?_
          subst he
          have hfull : Rep P r' 9 w' (fun _ => False) y cs'' O1 := hrep.full hc1 (Nat.le_of_ble_eq_true hc2)
          obtain ⟨O', R, hp, hk⟩ := hfull.lower (Nat.le_of_ble_eq_true hc3)
          have hout' := call_out (F := F) h.lt hout hp
          exact hn v w' _ O' hout' ⟨cs'', hv, hk _ ⟨fun _ hb => hb.elim, fun _ _ => rfl, hout'.lt⟩ fun b hb => .inr (.inr hb)⟩
        · simp at hev
      · simp at hev
    · simp at hev
  · simp at hev

theorem evalQ_sound (h : Fr P N w0 F0 G e a.tmps w F O) {tys : Tys} (ht : tys.ok P = true) {ok oka okb : List (Nat × Bool)} (hok : ∀ g ∈ ok, G g = true) {o : Oper}
    (hpk : ∀ c x y, o.op = .pick c x y → ∀ β, rdBool (opd ok e c) = some β → (β = true → ∀ g ∈ oka, G g = true) ∧ (β = false → ∀ g ∈ okb, G g = true))
    {sup sup' : List Sup} {s : S} {obs : List Prop} (hev : evalQ P tys ok oka okb e o sup = some (s, obs, sup')) (hobs : ∀ p ∈ obs, p) : QOk P G w F e a o s := by
  have op1 := fun x => opd_ok h hok x
  unfold evalQ at hev
  split at hev
  · rename_i x hop
    exact QOk.val h (by simp only [execOp, hop]) (evMove_sound h ht (op1 x) hev)
  · rename_i c x y hop
    cases hc : rdBool (opd ok e c) with
    | none => rw [hc] at hev; simp [evPick] at hev
    | some β =>
      rw [hc] at hev
      obtain ⟨k1, k2⟩ := hpk c x y hop β hc
      have hcv := rdBool_ok h (op1 c) hc
      refine QOk.val (v := if β then a.eval x else a.eval y) h ?_ (evPick_sound h hev (fun hb => opd_ok h (k1 hb) x) (fun hb => opd_ok h (k2 hb) y) (fun b hb => by rw [hb]; rfl) (fun b hb => by rw [hb]; rfl))
      simp only [execOp, hop, hcv, asBool]
      cases β <;> rfl
  · rename_i T hop
    split at hev
    · rename_i τ hT
      split at hev
      · rename_i hd
        simp only [Option.some.injEq, Prod.mk.injEq] at hev
        obtain ⟨rfl, rfl, rfl⟩ := hev
        exact QOk.yld (by simp only [execOp, hop]) (evAlloc_sound h ht hT hd)
      · simp at hev
    · simp at hev
  · rename_i T x hop
    exact QOk.yld (by simp only [execOp, hop]) (evLoad_sound h ht (op1 x) hev)
  · rename_i T x f hop
    exact QOk.yld (by simp only [execOp, hop]) (evFieldAddr_sound h ht (op1 x) hev)
  · rename_i T x f hop
    exact QOk.yld (by simp only [execOp, hop]) (evField_sound h ht (op1 x) hev)
  · rename_i T x i hop
    exact QOk.yld (by simp only [execOp, hop]) (evIndexAddr_sound h ht (op1 x) (op1 i) hev hobs)
  · rename_i T x i hop
    exact QOk.yld (by simp only [execOp, hop]) (evIndex_sound h ht (op1 x) (op1 i) hev hobs)
  · rename_i op T x y yT hop
    exact QOk.yld (by simp only [execOp, hop]) (evBin_sound h ht (op1 x) (op1 y) (xo := x) (yo := y) hev hobs)
  · rename_i op T x hop
    exact QOk.yld (by simp only [execOp, hop]) (evUn_sound h (op1 x) hev)
  · rename_i src dst x hop
    exact QOk.yld (by simp only [execOp, hop]) (evConvert_sound h ht (op1 x) hev)
  · rename_i T l c hop
    exact QOk.yld (by simp only [execOp, hop]) (evMakeSlice_sound h ht (op1 l) (op1 c) hev hobs)
  · rename_i T x lo hi mx hop
    have oo : ∀ z : Option Operand, OptOk P G w F e a O (z.map (opd ok e)) (z.map a.eval) := fun z => by
      cases z with
      | none => rfl
      | some z => exact ⟨_, rfl, op1 z⟩
    exact QOk.yld (by simp only [execOp, hop]) (evSlice_sound h ht (op1 x) (oo lo) (oo hi) (oo mx) hev hobs)
  · rename_i T n parts hop
    split at hev
    · rename_i E hT
      split at hev
      · rename_i hc
        simp only [Bool.and_eq_true] at hc
        obtain ⟨⟨hc1, hc2⟩, hc3⟩ := hc
        split at hev
        · rename_i xs hb
          have := evBuildSlice_sound h ht hT hc2 (Nat.le_of_ble_eq_true hc3) (parts_ok h hok parts.toList) (by simpa using Nat.eq_of_beq_eq_true hc1) hb
          split at hev
          · simp only [Option.some.injEq, Prod.mk.injEq] at hev
            obtain ⟨rfl, rfl, rfl⟩ := hev
            refine QOk.yld ?_ this.freeze
            simp only [execOp, hop]
            congr 2
            apply Array.toList_inj.1
            simp
          · simp only [Option.some.injEq, Prod.mk.injEq] at hev
            obtain ⟨rfl, rfl, rfl⟩ := hev
            refine QOk.yld ?_ this
            simp only [execOp, hop]
            congr 2
            apply Array.toList_inj.1
            simp
        · simp at hev
      · simp at hev
    · simp at hev
  · rename_i T parts hop
    split at hev
    · rename_i b hT
      split at hev
      · rename_i hc
        simp only [Bool.and_eq_true] at hc
        obtain ⟨⟨hc1, hc2⟩, hc3⟩ := hc
        split at hev
        · rename_i x hb
          simp only [Option.some.injEq, Prod.mk.injEq] at hev
          obtain ⟨rfl, rfl, rfl⟩ := hev
          have := evBuild_sound h ht hT hc1 (parts_ok h hok parts.toList) (by simpa [List.map_map, Function.comp_def] using hc2) (fun q hq => by
            obtain ⟨q', hq', rfl⟩ := List.mem_map.1 hq
            exact List.all_eq_true.1 hc3 q' hq') hb
          refine QOk.yld ?_ this
          simp only [execOp, hop]
          congr 2
          apply Array.toList_inj.1
          simp
        · simp at hev
      · simp at hev
    · simp at hev
  · rename_i f first captured hop
    split at hev
    · rename_i cs hf hcs
      simp only [Option.some.injEq, Prod.mk.injEq] at hev
      obtain ⟨rfl, rfl, rfl⟩ := hev
      have hf' : first = #[] := by
        apply Array.toList_inj.1; simpa using hf
      subst hf'
      have := capSlots_map (a := a) hcs
      refine QOk.val h (v := .func (.func f) #[] (captured.map a.eval)) (by simp [execOp, hop, Instr.makeFunc]) ⟨rfl, ?_⟩
      congr 1
      apply Array.toList_inj.1
      simpa using this
    · simp at hev
  · rename_i t i hop
    exact QOk.yld (by simp only [execOp, hop]) (evExtract_sound h (op1 t) hev)
  · rename_i f args Ts hop
    refine evCall_sound h (opds_ok h hok args.toList) hev hobs ?_
    simp only [execOp, hop, resolve, Act.eval, Deferred.ofValue, Sem.run_bind, Sem.run_pure, Result.andThen_ok, invoke]
    congr 2
    apply Array.toList_inj.1
    simp
  · rename_i t args Ts hop
    split at hev
    · rename_i to n b r g rr hg
      have hr := op1 (.tmp t)
      rw [hg] at hr
      obtain ⟨⟨Or, ⟨csf, hvf, hrep⟩, _⟩, _⟩ := hr
      refine evCallFn_sound h hvf hrep (opds_ok h hok args.toList) hev hobs ?_
      simp only [execOp, hop, resolve]
      congr 3
      apply Array.toList_inj.1
      simp
    · simp at hev
  · rename_i args Ts hop
    split at hev
    · rename_i x T hargs hTs
      have ha : args = #[x] := by apply Array.toList_inj.1; simpa using hargs
      have hT : Ts = #[T] := by apply Array.toList_inj.1; simpa using hTs
      subst ha; subst hT
      have := evLen_sound h ht (op1 x) (ty := o.type) hev
      refine QOk.yld ?_ this
      simp only [execOp, hop, resolve, pure_bind, invoke, builtin]
      simp
    · simp at hev
  · rename_i args Ts hop
    have := evMM_sound h (opds_ok h hok args.toList) (Ts := Ts) (ty := o.type) hev
    refine QOk.yld ?_ this
    simp only [execOp, hop, resolve, if_true, pure_bind, invoke]
    have : (args.toList.map a.eval).toArray = args.map a.eval := by apply Array.toList_inj.1; simp
    rw [this]
    rfl
  · rename_i args Ts hop
    have := evMM_sound h (opds_ok h hok args.toList) (Ts := Ts) (ty := o.type) hev
    refine QOk.yld ?_ this
    simp only [execOp, hop, resolve, Bool.false_eq_true, if_false, pure_bind, invoke]
    have : (args.toList.map a.eval).toArray = args.map a.eval := by apply Array.toList_inj.1; simp
    rw [this]
    rfl
  · simp at hev
end
end Go.Tom
