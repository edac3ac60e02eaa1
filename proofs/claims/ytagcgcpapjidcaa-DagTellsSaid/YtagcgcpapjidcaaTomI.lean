/- Each operation does what evalQ says: arithmetic, copies, reading memory, addresses. -/
import Derived.Test.YtagcgcpapjidcaaTomH
set_option linter.unusedVariables false
set_option linter.unusedSimpArgs false
namespace Go.Tom
open Go

theorem Place.snoc {w : World} {s : Step} {τ1 : Ty} {cs1 : List Value} {l1 : Option (Nat × Nat)} : ∀ (p : List Step) {τ τ' : Ty} {cs cs' : List Value} {l l' : Option (Nat × Nat)}, Place w p τ cs l τ' cs' l' → Place w [s] τ' cs' l' τ1 cs1 l1 → Place w (p ++ [s]) τ cs l τ1 cs1 l1 := by
  intro p
  induction p with
  | nil => intro τ τ' cs cs' l l' h h1; obtain ⟨rfl, rfl, rfl⟩ := h; exact h1
  | cons q p ih =>
    intro τ τ' cs cs' l l' h h1
    cases q with
    | idx i => cases τ with
      | slice e =>
        obtain ⟨b, o, len, cap, cs2, g1, g2, g3, g4, g5, hp⟩ := h
        exact ⟨b, o, len, cap, cs2, g1, g2, g3, g4, g5, ih hp h1⟩
      | _ => exact h.elim
    | fld f => cases τ with
      | st a => obtain ⟨a1, g1, hp⟩ := h; exact ⟨a1, g1, ih hp h1⟩
      | _ => exact h.elim

theorem get_snoc {s : Step} : ∀ (p : List Step) {τ : Ty} {x : τ.den} {t : TV}, get p τ x = some t → get (p ++ [s]) τ x = get [s] t.1 t.2 := by
  intro p
  induction p with
  | nil => intro τ x t h; simp only [get, Option.some.injEq] at h; subst h; rfl
  | cons q p ih =>
    intro τ x t h
    cases q with
    | idx i => cases τ with
      | slice e => exact ih h
      | _ => simp [get] at h
    | fld f => cases τ with
      | st a =>
        simp only [get, List.cons_append] at h ⊢
        cases hf : fldGet a x f with
        | none => rw [hf] at h; simp at h
        | some t1 => rw [hf] at h; simp only at h ⊢; exact ih h
      | _ => simp [get] at h

theorem idxs_snoc {s : Step} : ∀ (p : List Step), idxs (p ++ [s]) = idxs p + idxs [s] := by
  intro p
  induction p with
  | nil => simp [idxs]
  | cons q p ih => cases q <;> simp [idxs, ih]; omega

theorem at_heap {w : World} {b : Nat} {cs : List Value} {el : TypeId} (h : w.heap[b]? = some (.cells cs.toArray el (0, 0))) : At w b 0 cs := by
  intro j hj
  simp [World.cell?, h, hj]

section
variable {P : Program} {N : Nat} {w0 w : World} {F0 F : Nat → Prop} {G : Nat × Bool → Bool} {e : Nat → S} {a : Act} {O : Nat → List Nat}

/-- What is read at a place inside a slot. -/
theorem Fr.place (h : Fr P N w0 F0 G e a.tmps w F O) {V : Nat} {p : List Step} {τ' : Ty} {cs' : List Value} {l' : Option (Nat × Nat)} (hp : PlaceOf w (e V) (a.tmps.getD V undef) p τ' cs' l') {n : Nat} {t : TV}
    (hg : rootGet (e V) p = some (n, t)) : ∃ O'', Rep P t.1 n w F t.2 cs' O'' ∧ (∀ b o, l' = some (b, o) → At w b o cs') ∧ τ' = t.1 := by
  obtain ⟨τ, cs, l, hroot, hp⟩ := hp
  have key : ∀ n0 σ (x : σ.den), (e V = .v n0 σ x ∨ e V = .box n0 σ x) → Nat.ble (idxs p) n0 = true → get p σ x = some t → n = n0 - idxs p → ∃ O'', Rep P t.1 n w F t.2 cs' O'' ∧ (∀ b o, l' = some (b, o) → At w b o cs') ∧ τ' = t.1 := by
    intro n0 σ x hx hle hgp hn
    obtain ⟨O', hO', rfl, hrep⟩ := h.root hroot n0 σ x hx
    have hty := Place.ty p hp hgp
    subst hty
    have hnd : O'.Nodup ∧ ∀ b o, l = some (b, o) → b ∉ O' := by
      have hn := h.nodup V
      rcases hO' with ⟨rfl, hl⟩ | ⟨b', hb', hl⟩
      · exact ⟨hn, fun b o hl' => by rw [hl] at hl'; simp at hl'⟩
      · rw [hb', List.nodup_cons] at hn
        refine ⟨hn.2, fun b o hl' => ?_⟩
        rw [hl] at hl'
        simp only [Option.some.injEq, Prod.mk.injEq] at hl'
        obtain ⟨rfl, _⟩ := hl'
        exact hn.1
    have hat : ∀ b o, l = some (b, o) → At w b o cs := by
      intro b o hl
      rcases hx with hx | hx
      · rw [hx] at hroot; rw [hroot.2.2] at hl; simp at hl
      · rw [hx] at hroot
        obtain ⟨_, b2, el, k1, k2, k3⟩ := hroot
        rw [k3] at hl
        simp only [Option.some.injEq, Prod.mk.injEq] at hl
        obtain ⟨rfl, rfl⟩ := hl
        exact at_heap k2
    obtain ⟨O1, Or, _, hr1, hat1, _, _, _⟩ := focus p hrep hnd.1 (Nat.le_of_ble_eq_true hle) hp hgp hnd.2 hat
    exact ⟨O1, by rw [hn]; exact hr1, hat1, rfl⟩
  cases heV : e V <;> rw [heV] at hg <;> simp only [rootGet, reduceCtorEq] at hg
  · split at hg
    · rename_i hle
      simp only [Option.map_eq_some_iff, Prod.mk.injEq] at hg
      obtain ⟨t', h1, h2, rfl⟩ := hg
      exact key _ _ _ (.inl heV) hle h1 h2.symm
    · simp at hg
  · split at hg
    · rename_i hle
      simp only [Option.map_eq_some_iff, Prod.mk.injEq] at hg
      obtain ⟨t', h1, h2, rfl⟩ := hg
      exact key _ _ _ (.inr heV) hle h1 h2.symm
    · simp at hg

theorem equal_bool {T : TypeId} (hT : TyOk P T .bool) {m n : Bool} : (Op.equal T (.bool m) (.bool n)).run P w = .ok (m == n) w :=
  (run_equalIn_flat (P := P) (w := w) (F := fun _ => False) (τ := .bool) rfl).1 (T := T) (x := m) (y := n) (d := 9999) (cs := [.bool m]) (cs' := [.bool n]) hT (Nat.zero_le _) rfl rfl ⟨rfl, rfl⟩ ⟨rfl, rfl⟩

theorem evBin_sound (h : Fr P N w0 F0 G e a.tmps w F O) {tys : Tys} (ht : tys.ok P = true) {op : BinOp} {T : TypeId} {x y : RS} {vx vy : Value} (hx : RSOk P G w F e a O x vx) (hy : RSOk P G w F e a O y vy) {xo yo : Operand}
    {sup sup' : List Sup} {s : S} {obs : List Prop} (hev : evBin tys op T x y sup = some (s, obs, sup')) (hobs : ∀ p ∈ obs, p) : Yld P w F G e a (do eqGuard op T xo yo vx vy; binOp op T vx vy) s := by
  unfold evBin at hev
  split at hev
  · rename_i k m k' n h1 h2
    have e1 := rdk_int h hx h1
    have e2 := rdk_int h hy h2
    subst e1; subst e2
    split at hev
    · obtain ⟨v, r1, r2⟩ := shf_sound (G := G) (e := e) (a := a) (w := w) (F := F) (P := P) hev hobs (k' := k') (T := T)
      exact Yld.same h (by simp [eqGuard_int, r1]) r2
    · split at hev
      · rename_i hsh hk
        subst hk
        obtain ⟨v, r1, r2⟩ := binInt_sound (G := G) (e := e) (a := a) (w := w) (F := F) (P := P) hev hobs (by simpa using hsh) (T := T)
        exact Yld.same h (by simp [eqGuard_int, r1]) r2
      · simp at hev
  · rename_i m n h1 h2
    have e1 := rdk_bool h hx h1
    have e2 := rdk_bool h hy h2
    subst e1; subst e2
    split at hev
    · rename_i hT
      simp only [qv, Option.some.injEq, Prod.mk.injEq] at hev
      obtain ⟨rfl, rfl, rfl⟩ := hev
      exact Yld.same h (v := .bool (m == n)) (by simp [eqGuard_bool, binOp, equal_bool (tyAt_ok ht hT)]) ⟨[_], rfl, rfl, rfl⟩
    · rename_i hT
      simp only [qv, Option.some.injEq, Prod.mk.injEq] at hev
      obtain ⟨rfl, rfl, rfl⟩ := hev
      exact Yld.same h (v := .bool (m != n)) (by simp [eqGuard_bool, binOp, equal_bool (tyAt_ok ht hT), bne]) ⟨[_], rfl, rfl, rfl⟩
    · simp at hev
  · rename_i τ m τ' n h1 h2
    obtain ⟨c1, v1, r1⟩ := rdk_sound h hx h1
    obtain ⟨c2, v2, r2⟩ := rdk_sound h hy h2
    split at hev
    · rename_i hτ
      subst hτ
      split at hev
      · rename_i hc
        obtain ⟨hT, hfl, hn⟩ := hc
        have hok := tyAt_ok ht hT
        have hq : (Op.equal T vx vy).run P w = .ok (τ'.beq m n) w := by
          have := (run_equalIn_flat (P := P) (w := w) (F := F) (τ := .st τ') hfl).1 (T := T) (x := m) (y := n) (d := 9999) hok (by
            have := Nat.le_of_ble_eq_true hn
            simp only [Ty.nest]; omega) v1 v2 r1 r2
          exact this
        have e1 : vx = .agg c1.toArray := v1
        have e2 : vy = .agg c2.toArray := v2
        obtain ⟨fs, _, _, _, hg⟩ := hok.st
        subst e1; subst e2
        split at hev
        · simp only [qv, Option.some.injEq, Prod.mk.injEq] at hev
          obtain ⟨rfl, rfl, rfl⟩ := hev
          exact Yld.same h (v := .bool (τ'.beq m n)) (by simp [eqGuard, binOp, hg, hq]) ⟨[_], rfl, rfl, rfl⟩
        · simp only [qv, Option.some.injEq, Prod.mk.injEq] at hev
          obtain ⟨rfl, rfl, rfl⟩ := hev
          exact Yld.same h (v := .bool (!(τ'.beq m n))) (by simp [eqGuard, binOp, hg, hq]) ⟨[_], rfl, rfl, rfl⟩
        · simp at hev
      · simp at hev
    · simp at hev
  · rename_i m n h1 h2
    have e1 := rdk_str h hx h1
    have e2 := rdk_str h hy h2
    subst e1; subst e2
    split at hev
    · simp only [qv, Option.some.injEq, Prod.mk.injEq] at hev
      obtain ⟨rfl, rfl, rfl⟩ := hev
      exact Yld.same h (v := .bool (m.toList == n.toList)) (by simp [eqGuard_str, binOp, Op.stringOp]) ⟨[_], rfl, rfl, rfl⟩
    · simp only [qv, Option.some.injEq, Prod.mk.injEq] at hev
      obtain ⟨rfl, rfl, rfl⟩ := hev
      exact Yld.same h (v := .bool (!(m.toList == n.toList))) (by simp [eqGuard_str, binOp, Op.stringOp]) ⟨[_], rfl, rfl, rfl⟩
    · simp at hev
  · simp at hev

theorem evUn_sound (h : Fr P N w0 F0 G e a.tmps w F O) {op : UnOp} {x : RS} {vx : Value} (hx : RSOk P G w F e a O x vx)
    {sup sup' : List Sup} {s : S} {obs : List Prop} (hev : evUn op x sup = some (s, obs, sup')) : Yld P w F G e a (Op.unary op vx) s := by
  unfold evUn at hev
  split at hev
  · rename_i b h1
    have e1 := rdk_bool h hx h1
    subst e1
    simp only [qv, Option.some.injEq, Prod.mk.injEq] at hev
    obtain ⟨rfl, rfl, rfl⟩ := hev
    exact Yld.same h (v := .bool (!b)) (by simp [Op.unary]) ⟨[_], rfl, rfl, rfl⟩
  · rename_i k n h1
    have e1 := rdk_int h hx h1
    subst e1
    simp only [qv, Option.some.injEq, Prod.mk.injEq] at hev
    obtain ⟨rfl, rfl, rfl⟩ := hev
    exact Yld.same h (v := .int k (k.wrap (0 - n))) (by simp [Op.unary, Op.intArith]) ⟨[_], rfl, rfl, rfl⟩
  · rename_i k n h1
    have e1 := rdk_int h hx h1
    subst e1
    simp only [qv, Option.some.injEq, Prod.mk.injEq] at hev
    obtain ⟨rfl, rfl, rfl⟩ := hev
    exact Yld.same h (v := .int k (k.wrap (BitVec.ofInt k.bits (if k.signed then -1 else k.max) ^^^ BitVec.ofInt k.bits n).toNat)) (by simp [Op.unary, Op.intBits]) ⟨[_], rfl, rfl, rfl⟩
  · simp at hev

/-- What lies at a place, read as a value: flat or kept, or a copy that stays tied to it. -/
theorem atPlace_sound {V : Nat} {p : List Step} {n : Nat} {t : TV} {sup sup' : List Sup} {s : S} {obs : List Prop} (hev : atPlace V p n t sup = some (s, obs, sup')) {v : Value} {cs : List Value} {On : List Nat} {l' : Option (Nat × Nat)}
    (hv : VS t.1 v cs) (hr : Rep P t.1 n w F t.2 cs On) (hp : PlaceOf w (e V) (a.tmps.getD V undef) p t.1 cs l') : SRep P G w F a.tmps e v s [] := by
  unfold atPlace at hev
  split at hev
  · rename_i hc
    simp only [Option.some.injEq, Prod.mk.injEq] at hev
    obtain ⟨rfl, rfl, rfl⟩ := hev
    simp only [Bool.or_eq_true] at hc
    refine ⟨cs, hv, ?_⟩
    rcases hc with hc | hc
    · exact (hr.flat hc).2 _ _ _
    · obtain rfl := Nat.eq_of_beq_eq_true hc
      have := hr.zero_nil
      rwa [this] at hr
  · simp only [Option.some.injEq, Prod.mk.injEq] at hev
    obtain ⟨rfl, rfl, rfl⟩ := hev
    exact ⟨rfl, .inr ⟨t.1, cs, l', hv, hp⟩⟩

theorem evLoad_sound (h : Fr P N w0 F0 G e a.tmps w F O) {tys : Tys} (ht : tys.ok P = true) {T : TypeId} {x : RS} {vx : Value} (hx : RSOk P G w F e a O x vx)
    {sup sup' : List Sup} {s : S} {obs : List Prop} (hev : evLoad tys T x sup = some (s, obs, sup')) : Yld P w F G e a (Instr.loadAt T vx) s := by
  unfold evLoad at hev
  split at hev
  · rename_i V n τ xv rr
    obtain ⟨⟨Or, hrep, _⟩, hrt, hslot⟩ := hx
    obtain ⟨hV, hvx⟩ := hslot V rfl
    obtain ⟨b, cs, el, O', rfl, hb, hr, rfl⟩ := hrep
    split at hev
    · rename_i hT
      have hok := tyAt_ok ht hT
      obtain ⟨v, k1, k2⟩ := run_loadVar (w := w) hok (at_heap hb) hr.length
      refine Yld.same h (v := v) (by simp [Instr.loadAt, Instr.sureAddr, k1]) ?_
      refine atPlace_sound (l' := some (b, 0)) hev k2 hr ⟨τ, cs, some (b, 0), ?_, rfl, rfl, rfl⟩
      rw [hV, ← hvx]
      exact ⟨rfl, b, el, rfl, hb, rfl⟩
    · simp at hev
  · rename_i to V p r
    obtain ⟨⟨Or, hrep, _⟩, hrt, hslot⟩ := hx
    simp only [roots, List.map_cons, List.map_nil, List.cons.injEq, and_true] at hrt
    subst hrt
    obtain ⟨_, b, o, τ', cs', rfl, hp⟩ := hrep
    split at hev
    · rename_i n t hg
      obtain ⟨O'', hr, hat, rfl⟩ := h.place hp hg
      split at hev
      · rename_i hT
        obtain ⟨v, k1, k2⟩ := run_loadVar (w := w) (tyAt_ok ht hT) (hat b o rfl) hr.length
        exact Yld.same h (v := v) (by simp [Instr.loadAt, Instr.sureAddr, k1]) (atPlace_sound hev k2 hr hp)
      · simp at hev
    · simp at hev
  · rename_i to n τ xv rr
    obtain ⟨⟨Or, hrep, _⟩, hrt, hslot⟩ := hx
    obtain ⟨cs, hv, b, o, cs', rfl, hF, hat, hl, hr, rfl⟩ := hrep
    have hv' : [Value.pointer (some ⟨b, o, none⟩)] = [vx] := hv
    simp only [List.cons.injEq, and_true] at hv'
    subst hv'
    split at hev
    · rename_i hT
      simp only [Option.some.injEq, Prod.mk.injEq] at hev
      obtain ⟨rfl, rfl, rfl⟩ := hev
      obtain ⟨v, k1, k2⟩ := run_loadVar (w := w) (tyAt_ok ht hT) hat hl
      exact Yld.same h (v := v) (by simp [Instr.loadAt, Instr.sureAddr, k1]) ⟨cs', k2, hr⟩
    · simp at hev
  · simp at hev
end
end Go.Tom
