/- The frame when a value is taken out of it, or laid into it. -/
import Derived.Test.YtagcgcpapjidcaaTomN
set_option linter.unusedVariables false
set_option linter.unusedSimpArgs false
namespace Go.Tom
open Go

theorem rooted_iff {V : Nat} {s : S} : rooted V s = true ↔ V ∈ roots s := any_beq

theorem Env.at_kill (E : Env) (V t : Nat) : (E.kill V).at t = if rooted V (E.at t) then .dead else E.at t := by
  induction E with
  | nil => simp [Env.kill, Env.at, rooted, roots]
  | cons q E ih =>
    obtain ⟨k, s⟩ := q
    simp only [Env.kill, List.map_cons, Env.at]
    by_cases h : Nat.beq t k = true
    · simp only [h, if_true]
    · simp only [h, Bool.false_eq_true, if_false]
      exact ih

theorem Env.at_killBor (E : Env) (V t : Nat) : (E.killBor V).at t = if isBor (E.at t) && rooted V (E.at t) then .dead else E.at t := by
  induction E with
  | nil => simp [Env.killBor, Env.at, rooted, roots]
  | cons q E ih =>
    obtain ⟨k, s⟩ := q
    simp only [Env.killBor, List.map_cons, Env.at]
    by_cases h : Nat.beq t k = true
    · simp only [h, if_true]
    · simp only [h, Bool.false_eq_true, if_false]
      exact ih

theorem Env.at_hole (E : Env) (bx : Bool) (V t : Nat) (p : List Step) : (E.hole bx V p).at t = holeS bx V p (E.at t) := by
  induction E with
  | nil => simp [Env.hole, Env.at, holeS, rooted, roots]
  | cons q E ih =>
    obtain ⟨k, s⟩ := q
    simp only [Env.hole, List.map_cons, Env.at]
    by_cases h : Nat.beq t k = true
    · simp only [h, if_true]
    · simp only [h, Bool.false_eq_true, if_false]
      exact ih

theorem Env.at_set (E : Env) (d t : Nat) (s : S) : (E.set d s).at t = if t = d then s else E.at t := by
  simp only [Env.set, Env.at]
  by_cases h : t = d
  · subst h; simp [Nat.beq_refl]
  · have : Nat.beq t d = false := by
      cases hb : Nat.beq t d
      · rfl
      · exact absurd (Nat.eq_of_beq_eq_true hb) h
    simp [this, h]

theorem SRep.rooted_nil {P : Program} {G : Nat × Bool → Bool} {w : World} {F : Nat → Prop} {T : Array Value} {e : Nat → S} {v : Value} : ∀ {s : S} {O : List Nat}, SRep P G w F T e v s O → ∀ {V}, V ∈ roots s → O = [] := by
  intro s
  induction s with
  | cnd g s ih =>
    intro O h V hV
    cases hg : G g
    · exact (h.2 hg).2
    · exact ih (h.1 hg) hV
  | ref _ _ => intro O h V _; exact h.1
  | bor _ _ => intro O h V _; exact h.1
  | ext _ _ => intro O h V _; exact h.1
  | clo _ _ => intro O h V _; exact h.1
  | bsl _ _ _ _ => intro O h V _; exact h.1
  | hrf _ _ => intro O h V _; exact h.1
  | dead => intro O h V hV; simp [roots] at hV
  | v _ _ _ => intro O h V hV; simp [roots] at hV
  | box _ _ _ => intro O h V hV; simp [roots] at hV
  | tup _ => intro O h V hV; simp [roots] at hV
  | nil => intro O h V hV; simp [roots] at hV
  | hol _ _ _ _ _ => intro O h V hV; simp [roots] at hV

theorem Place.det {w : World} : ∀ (p : List Step) {τ τ1 τ2 : Ty} {cs cs1 cs2 : List Value} {l l1 l2 : Option (Nat × Nat)}, Place w p τ cs l τ1 cs1 l1 → Place w p τ cs l τ2 cs2 l2 → τ1 = τ2 ∧ cs1 = cs2 ∧ l1 = l2 := by
  intro p
  induction p with
  | nil => intro τ τ1 τ2 cs cs1 cs2 l l1 l2 h1 h2; obtain ⟨rfl, rfl, rfl⟩ := h1; obtain ⟨rfl, rfl, rfl⟩ := h2; exact ⟨rfl, rfl, rfl⟩
  | cons s p ih =>
    intro τ τ1 τ2 cs cs1 cs2 l l1 l2 h1 h2
    cases s with
    | idx i => cases τ with
      | slice e =>
        obtain ⟨b, o, len, cap, c1, g1, g2, g3, g4, g5, h1⟩ := h1
        obtain ⟨b', o', len', cap', c1', g1', g2', g3', g4', g5', h2⟩ := h2
        rw [g1] at g1'
        simp only [List.cons.injEq, Value.slice.injEq, Option.some.injEq, Addr.mk.injEq, and_true] at g1'
        obtain ⟨⟨rfl, rfl⟩, rfl, rfl⟩ := g1'
        obtain rfl := g5.unique g5' (by omega)
        exact ih h1 h2
      | _ => exact h1.elim
    | fld f => cases τ with
      | st a =>
        obtain ⟨a1, g1, h1⟩ := h1
        obtain ⟨a2, g2, h2⟩ := h2
        rw [g1] at g2
        obtain rfl := Option.some.inj g2
        exact ih h1 h2
      | _ => exact h1.elim

section
variable {P : Program} {N : Nat} {w0 w : World} {F0 F : Nat → Prop} {G : Nat × Bool → Bool} {e e' : Nat → S} {a : Act} {T : Array Value} {O O' : Nat → List Nat}

/-- Less is said of the slots, and they own less. -/
theorem Fr.less (h : Fr P N w0 F0 G e T w F O) (hr : ∀ t, SRep P G w F T e' (T.getD t undef) (e' t) (O' t)) (ho : ∀ t, (O' t).Nodup ∧ ∀ b ∈ O' t, b ∈ O t) : Fr P N w0 F0 G e' T w F O' :=
  ⟨h.size, h.below, h.sub, h.lt, h.old, hr, fun t => (ho t).1, fun t b hb => h.own t b ((ho t).2 b hb), fun t t' htt b hb hb' => h.apart t t' htt b ((ho t).2 b hb) ((ho t').2 b hb')⟩

theorem solid_roots {s : S} (h : solid s = true) : roots s = [] := by
  cases s <;> first | rfl | simp [solid] at h

/-- One slot is said to hold something else; what is tied to it is let go. -/
theorem Fr.turn (h : Fr P N w0 F0 G e T w F O) {V : Nat} {s : S} {On : List Nat} (hs : SRep P G w F T e (T.getD V undef) s On) (hV : roots s = []) (ho : On.Nodup ∧ ∀ b ∈ On, b ∈ O V) :
    Fr P N w0 F0 G (fun t => if t = V then s else if rooted V (e t) then .dead else e t) T w F (fun t => if t = V then On else O t) := by
  refine h.less (fun t => ?_) fun t => ?_
  · by_cases ht : t = V
    · subst ht
      simp only [if_true]
      exact hs.slot fun W hW => by rw [hV] at hW; cases hW
    · simp only [ht, if_false]
      by_cases hrt : rooted V (e t) = true
      · simp only [hrt, if_true]
        exact (h.rep t).rooted_nil (rooted_iff.1 hrt)
      · simp only [hrt, Bool.false_eq_true, if_false]
        refine (h.rep t).slot fun W hW => ⟨rfl, fun hsol => ?_⟩
        have hne : W ≠ V := fun hc => hrt (rooted_iff.2 (hc ▸ hW))
        have hnr : rooted V (e W) = false := by simp [rooted, solid_roots hsol]
        simp [hne, hnr]
  · by_cases ht : t = V
    · subst ht; simpa using ho
    · simp only [ht, if_false]; exact ⟨h.nodup t, fun b hb => hb⟩

theorem Env.kill_set (E : Env) (V : Nat) (s : S) : ((E.kill V).set V s).at = fun t => if t = V then s else if rooted V (E.at t) then .dead else E.at t := by
  funext t
  rw [Env.at_set]
  split
  · rfl
  · exact Env.at_kill E V t

/-- What is tied to a slot is let go. -/
theorem Fr.kill (h : Fr P N w0 F0 G e T w F O) (V : Nat) : Fr P N w0 F0 G (fun t => if rooted V (e t) then .dead else e t) T w F O := by
  refine h.less (fun t => ?_) fun t => ⟨h.nodup t, fun b hb => hb⟩
  by_cases hrt : rooted V (e t) = true
  · simp only [hrt, if_true]
    exact (h.rep t).rooted_nil (rooted_iff.1 hrt)
  · simp only [hrt, Bool.false_eq_true, if_false]
    refine (h.rep t).slot fun W hW => ⟨rfl, fun hsol => ?_⟩
    have hnr : rooted V (e W) = false := by simp [rooted, solid_roots hsol]
    simp [hnr]

/-- A path through owned and kept memory stays where its blocks stay. -/
theorem Place.keep {w1 : World} (hF : ∀ b, F b → w1.heap[b]? = w.heap[b]?) : ∀ (p : List Step) {τ : Ty} {n : Nat} {x : τ.den} {cs : List Value} {Ox : List Nat} {l : Option (Nat × Nat)} {τ' : Ty} {cs' : List Value} {l' : Option (Nat × Nat)}, Rep P τ n w F x cs Ox →
    (∀ b ∈ Ox, w1.heap[b]? = w.heap[b]?) → Place w p τ cs l τ' cs' l' → Place w1 p τ cs l τ' cs' l' := by
  intro p
  induction p with
  | nil => intro τ n x cs Ox l τ' cs' l' _ _ h; exact h
  | cons s p ih =>
    intro τ n x cs Ox l τ' cs' l' hr hb h
    cases s with
    | idx i => cases τ with
      | slice e1 =>
        obtain ⟨b, o, len, cap, cs1, hcs, hi0, hil, hcl1, hat1, hp⟩ := h
        obtain ⟨ad, cap', css, Os, hcs', hcap, hcl, hol, hr, hs⟩ := hr
        rw [hcs] at hcs'
        simp only [List.cons.injEq, Value.slice.injEq, and_true] at hcs'
        obtain ⟨rfl, hlen, rfl⟩ := hcs'
        subst hlen
        obtain ⟨hri, hli⟩ := hr i.toNat hil (by omega) (by omega)
        have hmem : ∀ c ∈ Os[i.toNat]'(by omega), c ∈ Os.flatten := fun c hc => List.mem_flatten.2 ⟨_, List.getElem_mem (by omega), hc⟩
        have key : ∀ (hb0 : w1.heap[b]? = w.heap[b]?) (hat : ∀ i (h1 : i < css.length), At w b (o + i * e1.sz) css[i]) (hOs : ∀ c ∈ Os.flatten, w1.heap[c]? = w.heap[c]?), Place w1 (.idx i :: p) (.slice e1) cs l τ' cs' l' := by
          intro hb0 hat hOs
          have hc1 : cs1 = css[i.toNat]'(by omega) := hat1.unique (hat i.toNat (by omega)) (by omega)
          rw [← hc1] at hri
          exact ⟨b, o, x.length, cap, cs1, hcs, hi0, hil, hcl1, hat1.congr hb0, ih hri (fun c hc => hOs c (hmem c hc)) hp⟩
        rcases hs with ⟨_, rfl, hx | ⟨b', o', hab, hFb, hat⟩⟩ | ⟨hn0, hc0, _⟩ | ⟨hn0, b', o', hab, hat, hown, rfl⟩
        · subst hx; simp at hil
        · simp only [Option.some.injEq, Addr.mk.injEq, and_true] at hab
          obtain ⟨rfl, rfl⟩ := hab
          exact key (hF _ hFb) hat hb
        · omega
        · simp only [Option.some.injEq, Addr.mk.injEq, and_true] at hab
          obtain ⟨rfl, rfl⟩ := hab
          exact key (hb _ (List.mem_cons_self ..)) hat fun c hc => hb c (List.mem_cons_of_mem _ hc)
      | _ => exact h.elim
    | fld f => cases τ with
      | st a1 =>
        obtain ⟨a2, ha2, hp⟩ := h
        -- the field's cells are a part of the struct's
        have key : ∀ {b1 : Ty} {f : Nat} {a2 : Ty} {x : b1.den} {cs : List Value} {Ox : List Nat}, Rep P b1 n w F x cs Ox → fldTy b1 f = some a2 → ∃ y Oy, Rep P a2 n w F y ((cs.drop (fldOff b1 f)).take a2.sz) Oy ∧ ∀ c ∈ Oy, c ∈ Ox := by
          intro b1
          induction b1 with
          | prod c1 c2 ih1 ih2 =>
            intro f a2 x cs Ox hr hf
            obtain ⟨d1, d2, O1, O2, rfl, rfl, l1, l2, r1, r2⟩ := hr
            cases f with
            | zero =>
              simp only [fldTy, Option.some.injEq] at hf
              subst hf
              refine ⟨x.1, O1, ?_, fun c hc => List.mem_append_left _ hc⟩
              simp only [fldOff, List.drop_zero]
              rw [← l1, List.take_left]
              exact r1
            | succ f =>
              obtain ⟨y, Oy, k1, k2⟩ := ih2 r2 hf
              refine ⟨y, Oy, ?_, fun c hc => List.mem_append_right _ (k2 c hc)⟩
              simp only [fldOff]
              rw [List.drop_append, List.drop_eq_nil_of_le (by omega), List.nil_append, l1, show c1.sz + fldOff c2 f - c1.sz = fldOff c2 f from by omega]
              exact k1
          | _ =>
            intro f a2 x cs Ox hr hf
            cases f <;> simp only [fldTy, Option.some.injEq, reduceCtorEq] at hf
            subst hf
            refine ⟨x, Ox, ?_, fun c hc => hc⟩
            simp only [fldOff, List.drop_zero]
            rw [List.take_of_length_le (by rw [hr.length]; exact Nat.le_refl _)]
            exact hr
        obtain ⟨y, Oy, k1, k2⟩ := key (b1 := a1) hr ha2
        exact ⟨a2, ha2, ih k1 (fun c hc => hb c (k2 c hc)) hp⟩
      | _ => exact h.elim

theorem PlaceOf.keep {w1 : World} {V : Nat} (hF : ∀ b, F b → w1.heap[b]? = w.heap[b]?) (hV : SRep P G w F T e (T.getD V undef) (e V) (O V)) (hO : ∀ b ∈ O V, w1.heap[b]? = w.heap[b]?) {p : List Step} {τ' : Ty} {cs' : List Value} {l' : Option (Nat × Nat)}
    (h : PlaceOf w (e V) (T.getD V undef) p τ' cs' l') : PlaceOf w1 (e V) (T.getD V undef) p τ' cs' l' := by
  obtain ⟨τ, cs, l, hroot, hp⟩ := h
  cases hs : e V <;> rw [hs] at hroot hV <;> try exact hroot.elim
  · obtain ⟨rfl, hv, rfl⟩ := hroot
    obtain ⟨cs2, hv2, hrep⟩ := hV
    obtain rfl := hv.inj hv2
    exact ⟨_, _, _, ⟨rfl, hv, rfl⟩, Place.keep hF p hrep hO hp⟩
  · obtain ⟨rfl, b, el, hv, hb, rfl⟩ := hroot
    obtain ⟨b', cs2, el', O2, hv', hb', hrep, hOe⟩ := hV
    rw [hv] at hv'
    simp only [Value.pointer.injEq, Option.some.injEq, Addr.mk.injEq, and_true] at hv'
    subst hv'
    rw [hb] at hb'
    simp only [Option.some.injEq, Obj.cells.injEq, and_true] at hb'
    have hc : cs = cs2 := by simpa using congrArg Array.toList hb'.1
    subst hc
    exact ⟨_, _, _, ⟨rfl, b, el, hv, by rw [hO b (by rw [hOe]; exact List.mem_cons_self ..)]; exact hb, rfl⟩, Place.keep hF p hrep (fun c hc => hO c (by rw [hOe]; exact List.mem_cons_of_mem _ hc)) hp⟩

theorem Wand.keep {w1 : World} {F1 : Nat → Prop} (he : Ext w F w1 F1) {n : Nat} {τ : Ty} {x : τ.den} {p : List Step} {l : Option (Nat × Nat)} {cs : List Value} {Ox : List Nat} (h : Wand P w F n τ x p l cs Ox) (hO : ∀ b ∈ Ox, w1.heap[b]? = w.heap[b]?) (hl : ∀ b o, l = some (b, o) → w1.heap[b]? = w.heap[b]?) : Wand P w1 F1 n τ x p l cs Ox := by
  obtain ⟨t, b, o, cs', h1, h2, h3, h4, h4', h4'', hob, hst, h5⟩ := h
  have hbs : ∀ c, (c ∈ Ox ∨ ∃ o', l = some (c, o')) → BSame w w1 c := fun c hc => by
    rcases hc with hc | ⟨o', hc⟩
    · exact .of_heap (hO c hc)
    · exact .of_heap (hl c o' hc)
  refine ⟨t, b, o, cs', h1, hst w1 fun c hc => hbs c (.inl hc), h3, h4, h4', h4''.same (hbs b h4), (hbs b h4).own _ hob, fun w2 hs => hst w2 fun c hc => ⟨fun j => ((hs c hc).cell j).trans ((hbs c (.inl hc)).cell j), fun n hn => (hs c hc).own n ((hbs c (.inl hc)).own n hn)⟩,
    fun w2 F2 y cs1 O1 xn hp he2 hc hr => h5 w2 F2 y cs1 O1 xn hp (he.trans he2) (fun c hcc => ChgAt.pre (hbs c hcc) (hc c hcc)) hr⟩

/-- THE FRAME STAYS where other blocks are written. -/
theorem SRep.keep {w1 : World} {F1 : Nat → Prop} (he : Ext w F w1 F1) (hO : ∀ t, ∀ b ∈ O t, w1.heap[b]? = w.heap[b]?) (hrep : ∀ t, SRep P G w F T e (T.getD t undef) (e t) (O t)) {v : Value} : ∀ {s : S} {Os : List Nat}, SRep P G w F T e v s Os →
    (∀ b ∈ Os, w1.heap[b]? = w.heap[b]?) → SRep P G w1 F1 T e v s Os := by
  intro s
  induction s with
  | dead => intro Os h _; exact h
  | v n τ x => intro Os h hb; obtain ⟨cs, h1, h2⟩ := h; exact ⟨cs, h1, h2.mono he fun b hb' => .of_heap (hb b hb')⟩
  | box n τ x =>
    intro Os h hb
    obtain ⟨b, cs, el, O2, h1, h2, h3, rfl⟩ := h
    exact ⟨b, cs, el, O2, h1, by rw [hb b (List.mem_cons_self ..)]; exact h2, h3.mono he fun b hb' => .of_heap (hb b (List.mem_cons_of_mem _ hb')), rfl⟩
  | ref V p => intro Os h _; obtain ⟨h0, b, o, τ', cs', h1, h2⟩ := h; exact ⟨h0, b, o, τ', cs', h1, h2.keep he.keep (hrep V) (hO V)⟩
  | bor V p =>
    intro Os h _
    obtain ⟨h0, h | ⟨τ', cs', l, h1, h2⟩⟩ := h
    · exact ⟨h0, .inl h⟩
    · exact ⟨h0, .inr ⟨τ', cs', l, h1, h2.keep he.keep (hrep V) (hO V)⟩⟩
  | ext V i => intro Os h _; exact h
  | clo f caps => intro Os h _; exact h
  | tup rs => intro Os h hb; obtain ⟨vs, h1, h2⟩ := h; exact ⟨vs, h1, h2.mono he fun b hb' => .of_heap (hb b hb')⟩
  | nil => intro Os h _; exact h
  | bsl V p lo hi => intro Os h _; obtain ⟨h0, a, len, cap, e1, cs', l, h1, h2, h3⟩ := h; exact ⟨h0, a, len, cap, e1, cs', l, h1, h2.keep he.keep (hrep V) (hO V), h3⟩
  | hol bx n τ x p =>
    intro Os h hb
    cases bx with
    | false =>
      obtain ⟨cs, h1, h1', h2, h3⟩ := h
      exact ⟨cs, h1, h1', h2, h3.keep he hb (by simp)⟩
    | true =>
      obtain ⟨b, cs, el, O2, h1, h2, h2', h3, rfl⟩ := h
      refine ⟨b, cs, el, O2, h1, by rw [hb b (List.mem_cons_self ..)]; exact h2, h2', h3.keep he (fun b hb' => hb b (List.mem_cons_of_mem _ hb')) ?_, rfl⟩
      intro b' o' hb'
      simp only [Option.some.injEq, Prod.mk.injEq] at hb'
      obtain ⟨rfl, _⟩ := hb'
      exact hb b (List.mem_cons_self ..)
  | hrf V l =>
    intro Os h _
    refine ⟨h.1, fun hl => ?_⟩
    obtain ⟨bx, n, σ, x, p, b, o, τ', cs, cs', l', k1, k2, k3, k4⟩ := h.2 hl
    have hV := hrep V
    rw [k1] at hV
    cases bx with
    | false =>
      obtain ⟨cs2, g1, g1', g2, g3⟩ := hV
      obtain ⟨k3, rfl⟩ := k3
      obtain rfl := k3.inj g1
      obtain ⟨t, b2, o2, cs3, w1', w2, w3, w4, w5, w6, _, hst, _⟩ := g3
      have hdet := Place.det p k4 w2
      obtain ⟨rfl, rfl, hl⟩ := hdet
      simp only [Option.some.injEq, Prod.mk.injEq] at hl
      obtain ⟨rfl, rfl⟩ := hl
      exact ⟨false, n, σ, x, p, b, o, t.1, cs, _, none, k1, k2, ⟨k3, rfl⟩, hst w1 fun c hc => .of_heap (hO V c hc)⟩
    | true =>
      obtain ⟨b1, cs2, el, O2, g1, g2, g2', g3, hOV⟩ := hV
      obtain ⟨b1', el', k3, k3', rfl⟩ := k3
      rw [g1] at k3
      simp only [Value.pointer.injEq, Option.some.injEq, Addr.mk.injEq, and_true] at k3
      subst k3
      rw [g2] at k3'
      simp only [Option.some.injEq, Obj.cells.injEq, and_true] at k3'
      have hc : cs2 = cs := by simpa using congrArg Array.toList k3'.1
      subst hc
      obtain ⟨t, b2, o2, cs3, w1', w2, w3, w4, w5, w6, _, hst, _⟩ := g3
      have hdet := Place.det p k4 w2
      obtain ⟨rfl, rfl, hl⟩ := hdet
      simp only [Option.some.injEq, Prod.mk.injEq] at hl
      obtain ⟨rfl, rfl⟩ := hl
      exact ⟨true, n, σ, x, p, b, o, t.1, cs2, _, some (b1, 0), k1, k2, ⟨b1, el, g1, by rw [hO V b1 (by rw [hOV]; exact List.mem_cons_self ..)]; exact g2, rfl⟩, hst w1 fun c hc => .of_heap (hO V c (by rw [hOV]; exact List.mem_cons_of_mem _ hc))⟩
  | cnd g s ih =>
    intro Os h hb
    exact ⟨fun hg => ih (h.1 hg) hb, h.2⟩

end
end Go.Tom
