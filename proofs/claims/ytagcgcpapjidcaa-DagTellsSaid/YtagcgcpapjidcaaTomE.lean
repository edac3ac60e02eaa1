/- The frame: what its slots hold stands for what S says (SRep, Fr); kept when the world goes on. -/
import Derived.Test.YtagcgcpapjidcaaTomD
set_option linter.unusedVariables false
set_option linter.unusedSimpArgs false
namespace Go.Tom
open Go

/-- The cells at the root of slot V, and where they lie. -/
def RootAt (w : World) (s : S) (v : Value) (τ : Ty) (cs : List Value) (l : Option (Nat × Nat)) : Prop :=
  match s with
  | .v _ σ _ => σ = τ ∧ VS τ v cs ∧ l = none
  | .box _ σ _ => σ = τ ∧ ∃ b el, v = .pointer (some ⟨b, 0, none⟩) ∧ w.heap[b]? = some (.cells cs.toArray el (0, 0)) ∧ l = some (b, 0)
  | _ => False

/-- The same for a slot with a hole. -/
def RootHol (w : World) (bx : Bool) (v : Value) (τ : Ty) (cs : List Value) (l : Option (Nat × Nat)) : Prop :=
  match bx with
  | false => VS τ v cs ∧ l = none
  | true => ∃ b el, v = .pointer (some ⟨b, 0, none⟩) ∧ w.heap[b]? = some (.cells cs.toArray el (0, 0)) ∧ l = some (b, 0)

def PlaceOf (w : World) (s : S) (v : Value) (p : List Step) (τ' : Ty) (cs' : List Value) (l' : Option (Nat × Nat)) : Prop :=
  ∃ τ cs l, RootAt w s v τ cs l ∧ Place w p τ cs l τ' cs' l'

/-- A row with a hole: whatever is laid at its place makes it whole. -/
def Wand (P : Program) (w : World) (F : Nat → Prop) (n : Nat) (τ : Ty) (x : τ.den) (p : List Step) (l : Option (Nat × Nat)) (cs : List Value) (O : List Nat) : Prop :=
  ∃ (t : TV) (b o : Nat) (cs' : List Value), get p τ x = some t ∧ Place w p τ cs l t.1 cs' (some (b, o)) ∧ idxs p ≤ n ∧ (b ∈ O ∨ ∃ o', l = some (b, o')) ∧ cs'.length = t.1.sz ∧ At w b o cs' ∧ OwnBlk w b 0 ∧ (∀ w1, (∀ c ∈ O, BSame w w1 c) → Place w1 p τ cs l t.1 cs' (some (b, o))) ∧
    ∀ w1 F1 (y : t.1.den) cs1 O1 xn, put p τ x ⟨t.1, y⟩ = some xn → Ext w F w1 F1 → (∀ c, (c ∈ O ∨ ∃ o', l = some (c, o')) → ChgAt w w1 c (some (b, o)) cs1) → Rep P t.1 (n - idxs p) w1 F1 y cs1 O1 →
      ∃ csn On, Rep P τ n w1 F1 xn csn On ∧ On.Perm (O1 ++ O) ∧ (∀ b' o', l = some (b', o') → At w1 b' o' csn) ∧ (0 < idxs p → csn = cs)

def TupRep (P : Program) (w : World) (F : Nat → Prop) : List (Option Res) → List Value → List Nat → Prop
  | [], vs, O => vs = [] ∧ O = []
  | none :: rs, vs, O => ∃ v vs', vs = v :: vs' ∧ TupRep P w F rs vs' O
  | some r :: rs, vs, O => ∃ v vs' cs O1 O2, vs = v :: vs' ∧ O = O1 ++ O2 ∧ VS r.τ v cs ∧ Rep P r.τ r.n w F r.x cs O1 ∧ TupRep P w F rs vs' O2

/-- A slot of which a copy may be had as it lies there. -/
def passive : S → Bool
  | .tup _ | .hol false _ _ _ _ => true
  | _ => false

def SRep (P : Program) (G : Nat × Bool → Bool) (w : World) (F : Nat → Prop) (T : Array Value) (e : Nat → S) (v : Value) : S → List Nat → Prop
  | .dead, O => O = []
  | .v n τ x, O => ∃ cs, VS τ v cs ∧ Rep P τ n w F x cs O
  | .box n τ x, O => ∃ b cs el O', v = .pointer (some ⟨b, 0, none⟩) ∧ w.heap[b]? = some (.cells cs.toArray el (0, 0)) ∧ Rep P τ n w F x cs O' ∧ O = b :: O'
  | .ref V p, O => O = [] ∧ ∃ b o τ' cs', v = .pointer (some ⟨b, o, none⟩) ∧ PlaceOf w (e V) (T.getD V undef) p τ' cs' (some (b, o))
  | .bor V p, O => O = [] ∧ ((passive (e V) = true ∧ p = [] ∧ v = T.getD V undef) ∨ ∃ τ' cs' l, VS τ' v cs' ∧ PlaceOf w (e V) (T.getD V undef) p τ' cs' l)
  | .ext V i, O => O = [] ∧ ∃ rs vs, e V = .tup rs ∧ T.getD V undef = .tuple vs ∧ vs[i]? = some v
  | .clo f caps, O => O = [] ∧ v = .func (.func f) #[] (caps.map fun t => T.getD t undef).toArray
  | .tup rs, O => ∃ vs, v = .tuple vs.toArray ∧ TupRep P w F rs vs O
  | .nil, O => O = [] ∧ v = .slice none 0 0
  | .bsl V p lo hi, O => O = [] ∧ ∃ a len cap e' cs' l, v = .slice (if cap = lo.toNat then a else a.map fun q => q.add (lo.toNat * e'.sz)) (hi - lo).toNat (cap - lo.toNat) ∧ PlaceOf w (e V) (T.getD V undef) p (.slice e') cs' l ∧
      cs' = [.slice a len cap] ∧ 0 ≤ lo ∧ lo ≤ hi ∧ hi ≤ (len : Int)
  | .hol false n τ x p, O => ∃ cs, VS τ v cs ∧ cs.length = τ.sz ∧ 0 < idxs p ∧ Wand P w F n τ x p none cs O
  | .hol true n τ x p, O => ∃ b cs el O', v = .pointer (some ⟨b, 0, none⟩) ∧ w.heap[b]? = some (.cells cs.toArray el (0, 0)) ∧ cs.length = τ.sz ∧ Wand P w F n τ x p (some (b, 0)) cs O' ∧ O = b :: O'
  | .hrf V l, O => O = [] ∧ (AllP l → ∃ bx n σ x p b o τ' cs cs' l, e V = .hol bx n σ x p ∧ v = .pointer (some ⟨b, o, none⟩) ∧ RootHol w bx (T.getD V undef) σ cs l ∧ Place w p σ cs l τ' cs' (some (b, o)))
  | .cnd g s, O => (G g = true → SRep P G w F T e v s O) ∧ (G g = false → v = undef ∧ O = [])

theorem TupRep.mono {P : Program} {w w' : World} {F F' : Nat → Prop} : ∀ {rs : List (Option Res)} {vs : List Value} {O : List Nat}, TupRep P w F rs vs O → Ext w F w' F' → (∀ b ∈ O, BSame w w' b) → TupRep P w' F' rs vs O := by
  intro rs
  induction rs with
  | nil => intro vs O h _ _; exact h
  | cons r rs ih =>
    intro vs O h he hb
    cases r with
    | none =>
      obtain ⟨v, vs', rfl, h⟩ := h
      exact ⟨v, vs', rfl, ih h he hb⟩
    | some r =>
      obtain ⟨v, vs', cs, O1, O2, rfl, rfl, h1, h2, h3⟩ := h
      exact ⟨v, vs', cs, O1, O2, rfl, rfl, h1, h2.mono he fun b hb' => hb b (List.mem_append_left _ hb'), ih h3 he fun b hb' => hb b (List.mem_append_right _ hb')⟩

/-- Every block that was there reads as it did. -/
def Older (w w' : World) : Prop := ∀ b, b < w.heap.size → w'.heap[b]? = w.heap[b]?

theorem Older.same {w w' : World} (h : Older w w') {b : Nat} (hb : b < w.heap.size) : BSame w w' b := BSame.of_heap (h b hb)

theorem cell_lt {w : World} {b o : Nat} {v : Value} (h : w.cell? ⟨b, o, none⟩ = some v) : b < w.heap.size := World.block_lt_of_cell? w (a := ⟨b, o, none⟩) h

theorem At.older {w w' : World} {b o : Nat} {cs : List Value} (h : Older w w') (hc : At w b o cs) : At w' b o cs :=
  fun j hj => by have := hc j hj; rw [← this]; exact cell?_congr (a := ⟨b, o + j, none⟩) (h b (cell_lt this))

theorem Place.older {w w' : World} (h : Older w w') : ∀ (p : List Step) {τ τ' : Ty} {cs cs' : List Value} {l l' : Option (Nat × Nat)}, Place w p τ cs l τ' cs' l' → Place w' p τ cs l τ' cs' l' := by
  intro p
  induction p with
  | nil => intro τ τ' cs cs' l l' hp; exact hp
  | cons s p ih =>
    intro τ τ' cs cs' l l' hp
    cases s with
    | idx i => cases τ with
      | slice e =>
        obtain ⟨b, o, len, cap, cs1, h1, h2, h3, h4, h5, h6⟩ := hp
        exact ⟨b, o, len, cap, cs1, h1, h2, h3, h4, h5.older h, ih h6⟩
      | _ => exact hp.elim
    | fld f => cases τ with
      | st a => obtain ⟨a1, h1, h2⟩ := hp; exact ⟨a1, h1, ih h2⟩
      | _ => exact hp.elim

theorem RootAt.older {w w' : World} (h : Older w w') {s : S} {v : Value} {τ : Ty} {cs : List Value} {l : Option (Nat × Nat)} (hr : RootAt w s v τ cs l) : RootAt w' s v τ cs l := by
  have hb : ∀ {b : Nat} {el : TypeId}, w.heap[b]? = some (.cells cs.toArray el (0, 0)) → w'.heap[b]? = some (.cells cs.toArray el (0, 0)) := fun hb => by
    rw [h _ (Array.getElem?_eq_some_iff.1 hb).1]; exact hb
  cases s <;> try exact hr
  · obtain ⟨h1, b, el, h2, h3, h4⟩ := hr; exact ⟨h1, b, el, h2, hb h3, h4⟩

theorem RootHol.older {w w' : World} (h : Older w w') {bx : Bool} {v : Value} {τ : Ty} {cs : List Value} {l : Option (Nat × Nat)} (hr : RootHol w bx v τ cs l) : RootHol w' bx v τ cs l := by
  cases bx
  · exact hr
  · obtain ⟨b, el, h2, h3, h4⟩ := hr
    exact ⟨b, el, h2, by rw [h _ (Array.getElem?_eq_some_iff.1 h3).1]; exact h3, h4⟩

theorem PlaceOf.older {w w' : World} (h : Older w w') {s : S} {v : Value} {p : List Step} {τ' : Ty} {cs' : List Value} {l' : Option (Nat × Nat)} (hp : PlaceOf w s v p τ' cs' l') : PlaceOf w' s v p τ' cs' l' := by
  obtain ⟨τ, cs, l, h1, h2⟩ := hp
  exact ⟨τ, cs, l, h1.older h, Place.older h p h2⟩

theorem ChgAt.pre {w w1 w2 : World} {c : Nat} {l' : Option (Nat × Nat)} {cs1 : List Value} (h : BSame w w1 c) (hc : ChgAt w1 w2 c l' cs1) : ChgAt w w2 c l' cs1 :=
  ⟨fun n hn => hc.own n (h.own n hn), fun j hj => (hc.out j hj).trans (h.cell j), hc.inn⟩

theorem Wand.mono {P : Program} {w w' : World} {F F' : Nat → Prop} {n : Nat} {τ : Ty} {x : τ.den} {p : List Step} {l : Option (Nat × Nat)} {cs : List Value} {O : List Nat}
    (h : Wand P w F n τ x p l cs O) (ho : Older w w') (he : Ext w F w' F') (hO : ∀ b ∈ O, b < w.heap.size) (hl : ∀ b o, l = some (b, o) → b < w.heap.size) : Wand P w' F' n τ x p l cs O := by
  obtain ⟨t, b, o, cs', h1, h2, h3, h4, h4', h4'', hob, hst, h5⟩ := h
  have hbs : BSame w w' b := ho.same (by
    rcases h4 with h4 | ⟨o', h4⟩
    · exact hO b h4
    · exact hl b o' h4)
  refine ⟨t, b, o, cs', h1, Place.older ho p h2, h3, h4, h4', h4''.older ho, hbs.own _ hob, fun w1 hs => hst w1 fun c hc => ⟨fun j => ((hs c hc).cell j).trans ((ho.same (hO c hc)).cell j), fun n hn => (hs c hc).own n ((ho.same (hO c hc)).own n hn)⟩, fun w1 F1 y cs1 O1 xn hp he1 hc hr => h5 w1 F1 y cs1 O1 xn hp (he.trans he1) (fun c hcc => ?_) hr⟩
  refine ChgAt.pre (ho.same ?_) (hc c hcc)
  rcases hcc with hcc | ⟨o', hcc⟩
  · exact hO c hcc
  · exact hl c o' hcc

theorem SRep.older {P : Program} {G : Nat × Bool → Bool} {w w' : World} {F F' : Nat → Prop} {T : Array Value} {e : Nat → S} {v : Value} (ho : Older w w') (he : Ext w F w' F') :
    ∀ {s : S} {O : List Nat}, SRep P G w F T e v s O → (∀ b ∈ O, b < w.heap.size) → SRep P G w' F' T e v s O := by
  have hbk : ∀ {b : Nat} {cs : List Value} {el : TypeId}, w.heap[b]? = some (.cells cs.toArray el (0, 0)) → w'.heap[b]? = some (.cells cs.toArray el (0, 0)) := fun hb => by
    rw [ho _ (Array.getElem?_eq_some_iff.1 hb).1]; exact hb
  intro s
  induction s with
  | dead => intro O h _; exact h
  | v n τ x => intro O h hl; obtain ⟨cs, h1, h2⟩ := h; exact ⟨cs, h1, h2.mono he fun b hb => ho.same (hl b hb)⟩
  | box n τ x =>
    intro O h hl
    obtain ⟨b, cs, el, O', h1, h2, h3, rfl⟩ := h
    exact ⟨b, cs, el, O', h1, hbk h2, h3.mono he fun b hb => ho.same (hl b (List.mem_cons_of_mem _ hb)), rfl⟩
  | ref V p => intro O h _; obtain ⟨h0, b, o, τ', cs', h1, h2⟩ := h; exact ⟨h0, b, o, τ', cs', h1, h2.older ho⟩
  | bor V p =>
    intro O h _
    obtain ⟨h0, h | ⟨τ', cs', l, h1, h2⟩⟩ := h
    · exact ⟨h0, .inl h⟩
    · exact ⟨h0, .inr ⟨τ', cs', l, h1, h2.older ho⟩⟩
  | ext V i => intro O h _; exact h
  | clo f caps => intro O h _; exact h
  | tup rs => intro O h hl; obtain ⟨vs, h1, h2⟩ := h; exact ⟨vs, h1, h2.mono he fun b hb => ho.same (hl b hb)⟩
  | nil => intro O h _; exact h
  | bsl V p lo hi => intro O h _; obtain ⟨h0, a, len, cap, e', cs', l, h1, h2, h3⟩ := h; exact ⟨h0, a, len, cap, e', cs', l, h1, h2.older ho, h3⟩
  | hol bx n τ x p =>
    intro O h hl
    cases bx with
    | false =>
      obtain ⟨cs, h1, h1', h2, h3⟩ := h
      exact ⟨cs, h1, h1', h2, h3.mono ho he hl (by simp)⟩
    | true =>
      obtain ⟨b, cs, el, O', h1, h2, h2', h3, rfl⟩ := h
      refine ⟨b, cs, el, O', h1, hbk h2, h2', h3.mono ho he (fun b hb => hl b (List.mem_cons_of_mem _ hb)) ?_, rfl⟩
      intro b' o' hb'
      simp only [Option.some.injEq, Prod.mk.injEq] at hb'
      obtain ⟨rfl, _⟩ := hb'
      exact (Array.getElem?_eq_some_iff.1 h2).1
  | hrf V l =>
    intro O h _
    exact ⟨h.1, fun hl => by
      obtain ⟨bx, n, σ, x, p, b, o, τ', cs, cs', l', h1, h2, h3, h4⟩ := h.2 hl
      exact ⟨bx, n, σ, x, p, b, o, τ', cs, cs', l', h1, h2, h3.older ho, Place.older ho p h4⟩⟩
  | cnd g s ih =>
    intro O h hl
    exact ⟨fun hg => ih (h.1 hg) hl, h.2⟩

/-- A slot that others may be tied to. -/
def solid : S → Bool
  | .v _ _ _ | .box _ _ _ | .tup _ | .hol _ _ _ _ _ => true
  | _ => false

theorem passive_solid {s : S} (h : passive s = true) : solid s = true := by
  cases s <;> first | rfl | (simp [passive] at h; done)

theorem PlaceOf.solid {w : World} {s : S} {v : Value} {p : List Step} {τ' : Ty} {cs' : List Value} {l' : Option (Nat × Nat)} (h : PlaceOf w s v p τ' cs' l') : solid s = true := by
  obtain ⟨τ, cs, l, hr, _⟩ := h
  cases s <;> first | rfl | exact hr.elim

/-- What is tied to other slots alone is not touched by a new value in slot d. -/
theorem SRep.slot {P : Program} {G : Nat × Bool → Bool} {w : World} {F : Nat → Prop} {T T' : Array Value} {e e' : Nat → S} {v : Value} :
    ∀ {s : S} {O : List Nat}, SRep P G w F T e v s O → (∀ V ∈ roots s, T'.getD V undef = T.getD V undef ∧ (solid (e V) = true → e' V = e V)) → SRep P G w F T' e' v s O := by
  intro s
  induction s with
  | ref V p => intro O h hr; obtain ⟨h0, b, o, τ', cs', h1, h2⟩ := h; obtain ⟨r1, r2⟩ := hr V (by simp [roots]); exact ⟨h0, b, o, τ', cs', h1, by rw [r1, r2 h2.solid]; exact h2⟩
  | bor V p =>
    intro O h hr
    obtain ⟨r1, r2⟩ := hr V (by simp [roots])
    obtain ⟨h0, ⟨k1, k2, k3⟩ | ⟨τ', cs', l, k1, k2⟩⟩ := h
    · exact ⟨h0, .inl ⟨by rw [r2 (passive_solid k1)]; exact k1, k2, by rw [r1]; exact k3⟩⟩
    · exact ⟨h0, .inr ⟨τ', cs', l, k1, by rw [r1, r2 k2.solid]; exact k2⟩⟩
  | ext V i =>
    intro O h hr
    obtain ⟨r1, r2⟩ := hr V (by simp [roots])
    obtain ⟨h0, rs, vs, k1, k2, k3⟩ := h
    exact ⟨h0, rs, vs, by rw [r2 (by rw [k1]; rfl)]; exact k1, by rw [r1]; exact k2, k3⟩
  | clo f caps =>
    intro O h hr
    refine ⟨h.1, ?_⟩
    rw [h.2]
    congr 1
    congr 1
    exact List.map_congr_left fun t ht => ((hr t (by simpa [roots] using ht)).1).symm
  | bsl V p lo hi =>
    intro O h hr
    obtain ⟨r1, r2⟩ := hr V (by simp [roots])
    obtain ⟨h0, a, len, cap, e1, cs', l, k1, k2, k3⟩ := h
    exact ⟨h0, a, len, cap, e1, cs', l, k1, by rw [r1, r2 k2.solid]; exact k2, k3⟩
  | hrf V l =>
    intro O h hr
    obtain ⟨r1, r2⟩ := hr V (by simp [roots])
    refine ⟨h.1, fun hl => ?_⟩
    obtain ⟨bx, n, σ, x, p, b, o, τ', cs, cs', l', k1, k2, k3, k4⟩ := h.2 hl
    exact ⟨bx, n, σ, x, p, b, o, τ', cs, cs', l', by rw [r2 (by rw [k1]; rfl)]; exact k1, k2, by rw [r1]; exact k3, k4⟩
  | cnd g s ih =>
    intro O h hr
    exact ⟨fun hg => ih (h.1 hg) (fun V hV => hr V (by simpa [roots] using hV)), h.2⟩
  | dead => intro O h _; exact h
  | v n τ x => intro O h _; exact h
  | box n τ x => intro O h _; exact h
  | tup rs => intro O h _; exact h
  | nil => intro O h _; exact h
  | hol bx n τ x p => intro O h _; cases bx <;> exact h

/-- THE FRAME. F: what is kept; O: what each slot owns. -/
structure Fr (P : Program) (N : Nat) (w0 : World) (F0 : Nat → Prop) (G : Nat × Bool → Bool) (e : Nat → S) (T : Array Value) (w : World) (F : Nat → Prop) (O : Nat → List Nat) : Prop where
  size : T.size = N
  below : RowKit.Below w0.heap.size w0 w
  sub : ∀ b, F0 b → F b
  lt : ∀ b, F b → b < w.heap.size
  old : ∀ b, F b → b < w0.heap.size → F0 b
  rep : ∀ t, SRep P G w F T e (T.getD t undef) (e t) (O t)
  nodup : ∀ t, (O t).Nodup
  own : ∀ t, ∀ b ∈ O t, w0.heap.size ≤ b ∧ b < w.heap.size ∧ ¬ F b
  apart : ∀ t t', t ≠ t' → ∀ b ∈ O t, b ∉ O t'

structure Inv (P : Program) (N : Nat) (w0 : World) (F0 : Nat → Prop) (G : Nat × Bool → Bool) (e : Nat → S) (a : Act) (w : World) : Prop where
  nod : a.defers = []
  fr : ∃ F O, Fr P N w0 F0 G e a.tmps w F O

theorem Fr.ext {P : Program} {N : Nat} {w0 w w' : World} {F0 F F' : Nat → Prop} {G : Nat × Bool → Bool} {e : Nat → S} {T : Array Value} {O : Nat → List Nat} {On : List Nat}
    (h : Fr P N w0 F0 G e T w F O) (ho : Out w F w' F' On) : Ext w F w' F' ∧ Older w w' :=
  ⟨⟨ho.sub, fun b hb => ho.below.block b (h.lt b hb), ho.lt⟩, fun b hb => ho.below.block b hb⟩

theorem getD_set {T : Array Value} {d t : Nat} {v : Value} (hd : d < T.size) : (T.setIfInBounds d v).getD t undef = if t = d then v else T.getD t undef := by
  by_cases ht : t = d
  · subst ht; simp [Array.getD, hd]
  · simp [ht, Array.getD_eq_getD_getElem?, Array.getElem?_setIfInBounds, Ne.symm ht]

/-- A NEW VALUE IN A FREE SLOT. -/
theorem Fr.put {P : Program} {N : Nat} {w0 w w' : World} {F0 F F' : Nat → Prop} {G : Nat × Bool → Bool} {e : Nat → S} {T : Array Value} {O : Nat → List Nat} {d : Nat} {s : S} {v : Value} {On : List Nat}
    (h : Fr P N w0 F0 G e T w F O) (hd : d < N) (hfree : ∀ t, d ∉ roots (e t)) (ho : Out w F w' F' On) (hs : SRep P G w' F' T e v s On) (hsd : d ∉ roots s) :
    Fr P N w0 F0 G (fun t => if t = d then s else e t) (T.setIfInBounds d v) w' F' (fun t => if t = d then On else O t) := by
  obtain ⟨he, hold⟩ := h.ext ho
  have hd' : d < T.size := by rw [h.size]; exact hd
  have hsz := h.below.size
  refine ⟨by simpa using h.size, h.below.trans (ho.below.mono hsz), fun b hb => ho.sub b (h.sub b hb), ho.lt, fun b hb hlt => h.old b (ho.old b hb (by omega)) hlt, fun t => ?_, fun t => ?_, fun t => ?_, fun t t' htt => ?_⟩
  · rw [getD_set hd']
    by_cases ht : t = d
    · simp only [ht, if_true]
      refine hs.slot fun V hV => ?_
      have hne : V ≠ d := fun hc => hsd (hc ▸ hV)
      exact ⟨by rw [getD_set hd', if_neg hne], fun _ => by simp [hne]⟩
    · simp only [ht, if_false]
      refine SRep.slot ((h.rep t).older hold he fun b hb => (h.own t b hb).2.1) fun V hV => ?_
      have hne : V ≠ d := fun hc => hfree t (hc ▸ hV)
      exact ⟨by rw [getD_set hd', if_neg hne], fun _ => by simp [hne]⟩
  · by_cases ht : t = d
    · simp only [ht, if_true]; exact ho.nodup
    · simp only [ht, if_false]; exact h.nodup t
  · by_cases ht : t = d
    · simp only [ht, if_true]; exact fun b hb => ⟨by have := (ho.new b hb).1; omega, (ho.new b hb).2.1, (ho.new b hb).2.2⟩
    · simp only [ht, if_false]
      intro b hb
      obtain ⟨h1, h2, h3⟩ := h.own t b hb
      exact ⟨h1, by have := ho.below.size; omega, fun hF => h3 (ho.old b hF h2)⟩
  · intro b hb hb'
    by_cases ht : t = d
    · simp only [ht, if_true] at hb
      have ht' : t' ≠ d := fun hc => htt (ht.trans hc.symm)
      simp only [ht', if_false] at hb'
      have := (h.own t' b hb').2.1
      have := (ho.new b hb).1
      omega
    · simp only [ht, if_false] at hb
      by_cases ht' : t' = d
      · simp only [ht', if_true] at hb'
        have := (h.own t b hb).2.1
        have := (ho.new b hb').1
        omega
      · simp only [ht', if_false] at hb'
        exact h.apart t t' htt b hb hb'

end Go.Tom
