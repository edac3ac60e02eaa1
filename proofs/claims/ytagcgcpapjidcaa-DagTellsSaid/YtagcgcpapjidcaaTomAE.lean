/- Running on: what is still to be done, and the rules by which it is done. -/
import Derived.Test.YtagcgcpapjidcaaTomAD
set_option linter.unusedVariables false
set_option linter.unusedSimpArgs false
namespace Go.Tom
open Go

inductive KI where
  | code (c : Code)
  | blk (id : Nat)
  | abs (K : Act → World → Prop)

def KQ (P : Program) : List KI → (Exit → Act → World → Prop) → Exit → Act → World → Prop
  | [], Q => Q
  | .code c :: k, Q => Exit.then (fun a w => c.wp P (KQ P k Q) a w) (KQ P k Q)
  | .blk id :: k, Q => Exit.inBlock id (KQ P k Q)
  | .abs K :: k, Q => Exit.then K (KQ P k Q)

/-- What is known at a point of a function. -/
def Hold (P : Program) (N : Nat) (w0 : World) (F0 : Nat → Prop) (E : Env) (a : Act) (w : World) : Prop :=
  a.defers = [] ∧ ∃ Gff F O, Fr P N w0 F0 Gff E.at a.tmps w F O

/-- From where this is known, what is still to be done leads where it should. -/
def W (P : Program) (N : Nat) (w0 : World) (F0 : Nat → Prop) (Q : Exit → Act → World → Prop) (k : List KI) (E : Env) : Prop :=
  ∀ a w, Hold P N w0 F0 E a w → KQ P k Q .normal a w

/-- A program's answer, told by a pure function's. -/
def Leads {ρ : Type} (q : ρ → Prop) : Option ρ → Prop
  | none => False
  | some r => q r

theorem Leads.bind {α ρ : Type} {q : ρ → Prop} {o : Option α} {f : α → Option ρ} (h : Leads q (o.bind f)) : ∃ y, o = some y ∧ Leads q (f y) := by
  cases o with
  | none => exact h.elim
  | some y => exact ⟨y, rfl, h⟩

theorem Leads.ite {ρ : Type} {q : ρ → Prop} {c : Prop} [Decidable c] {x : Option ρ} (h : Leads q (if c then x else none)) : c ∧ Leads q x := by
  by_cases hc : c
  · rw [if_pos hc] at h; exact ⟨hc, h⟩
  · rw [if_neg hc] at h; exact h.elim

theorem Leads.tt {ρ : Type} {q : ρ → Prop} {c : Bool} {x y : Option ρ} (h : Leads q (bif c then x else y)) (hc : c = true) : Leads q x := by subst hc; exact h
theorem Leads.ff {ρ : Type} {q : ρ → Prop} {c : Bool} {x y : Option ρ} (h : Leads q (bif c then x else y)) (hc : c = false) : Leads q y := by subst hc; exact h

/-- n rounds. -/
def iterM {σ ρ : Type} (step : σ → Option (σ ⊕ ρ)) : Nat → σ → Option ρ
  | 0, _ => none
  | n + 1, x => match step x with
    | none => none
    | some (.inl y) => iterM step n y
    | some (.inr r) => some r

theorem iterM_le {σ ρ : Type} {step : σ → Option (σ ⊕ ρ)} : ∀ {n m : Nat} {x : σ} {r : ρ}, iterM step n x = some r → n ≤ m → iterM step m x = some r
  | 0, m, x, r, h, _ => by simp [iterM] at h
  | n + 1, m, x, r, h, hm => by
    obtain ⟨m, rfl⟩ : ∃ m', m = m' + 1 := ⟨m - 1, by omega⟩
    simp only [iterM] at h ⊢
    split at h
    · simp at h
    · exact iterM_le h (by omega)
    · exact h

open Classical in
/-- A loop. -/
noncomputable def loopM {σ ρ : Type} (step : σ → Option (σ ⊕ ρ)) (x : σ) : Option ρ :=
  if h : ∃ n r, iterM step n x = some r then some (Classical.choose (Classical.choose_spec h)) else none

theorem loopM_iff {σ ρ : Type} {step : σ → Option (σ ⊕ ρ)} {x : σ} {r : ρ} : loopM step x = some r ↔ ∃ n, iterM step n x = some r := by
  unfold loopM
  constructor
  · intro h
    split at h
    · rename_i hh
      have := Classical.choose_spec (Classical.choose_spec hh)
      simp only [Option.some.injEq] at h
      rw [h] at this
      exact ⟨_, this⟩
    · simp at h
  · rintro ⟨n, hn⟩
    have hh : ∃ n r, iterM step n x = some r := ⟨n, r, hn⟩
    rw [dif_pos hh]
    have := Classical.choose_spec (Classical.choose_spec hh)
    have h1 := iterM_le this (Nat.le_max_left _ n)
    have h2 := iterM_le hn (Nat.le_max_right (Classical.choose hh) n)
    rw [h1] at h2
    exact h2

/-- A loop is its first round, and the loop behind it. -/
theorem loopM_eq {σ ρ : Type} {step : σ → Option (σ ⊕ ρ)} {x : σ} : loopM step x = match step x with
    | none => none
    | some (.inl y) => loopM step y
    | some (.inr r) => some r := by
  apply Option.ext
  intro r
  rw [loopM_iff]
  cases hs : step x with
  | none =>
    simp only [reduceCtorEq, iff_false]
    rintro ⟨n, hn⟩
    cases n with
    | zero => simp [iterM] at hn
    | succ n => simp [iterM, hs] at hn
  | some o =>
    cases o with
    | inl y =>
      simp only
      rw [loopM_iff]
      constructor
      · rintro ⟨n, hn⟩
        cases n with
        | zero => simp [iterM] at hn
        | succ n => exact ⟨n, by simpa [iterM, hs] using hn⟩
      · rintro ⟨n, hn⟩
        exact ⟨n + 1, by simpa [iterM, hs] using hn⟩
    | inr r' =>
      simp only [Option.some.injEq]
      constructor
      · rintro ⟨n, hn⟩
        cases n with
        | zero => simp [iterM] at hn
        | succ n => simpa [iterM, hs] using hn
      · intro h
        exact ⟨1, by simp [iterM, hs, h]⟩

def exits (id : Nat) : List KI → Option (List KI)
  | [] => none
  | .blk i :: k => if Nat.beq i id then some k else exits id k
  | _ :: k => exits id k

section
variable {P : Program} {N : Nat} {w0 : World} {F0 : Nat → Prop} {Q : Exit → Act → World → Prop} {k : List KI} {E : Env}

theorem KQ_exit {id : Nat} {a : Act} {w : World} : ∀ {k k' : List KI}, exits id k = some k' → KQ P k' Q .normal a w → KQ P k Q (.exit id) a w
  | [], k', h, _ => by simp [exits] at h
  | .blk i :: k, k', h, hq => by
    simp only [exits] at h
    by_cases hi : i = id
    · subst hi
      simp only [Nat.beq_refl, if_true, Option.some.injEq] at h
      subst h
      simp only [KQ, Exit.inBlock, if_true]
      exact hq
    · have hb : Nat.beq i id = false := by
        cases hb : Nat.beq i id
        · rfl
        · exact absurd (Nat.eq_of_beq_eq_true hb) hi
      rw [hb] at h
      simp only [Bool.false_eq_true, if_false] at h
      simp only [KQ, Exit.inBlock]
      rw [if_neg fun hc => hi hc.symm]
      exact KQ_exit h hq
  | .code c :: k, k', h, hq => by
    simp only [exits] at h
    exact KQ_exit (k := k) h hq
  | .abs K :: k, k', h, hq => by
    simp only [exits] at h
    exact KQ_exit (k := k) h hq

theorem KQ_ret {a : Act} {w : World} : ∀ {k : List KI}, Q .ret a w → KQ P k Q .ret a w
  | [], h => h
  | .blk i :: k, h => KQ_ret (k := k) h
  | .code c :: k, h => KQ_ret (k := k) h
  | .abs K :: k, h => KQ_ret (k := k) h

theorem W_seq {x y : Code} (h : W P N w0 F0 Q (.code x :: .code y :: k) E) : W P N w0 F0 Q (.code (.seq x y) :: k) E :=
  fun a w hh => wp_seq (h a w hh)

theorem W_skip (h : W P N w0 F0 Q k E) : W P N w0 F0 Q (.code .skip :: k) E := fun a w hh => wp_skip (h a w hh)

theorem W_block {id : Nat} {c : Code} (h : W P N w0 F0 Q (.code c :: .blk id :: k) E) : W P N w0 F0 Q (.code (.block id c) :: k) E := fun a w hh => wp_block (h a w hh)

theorem W_blk {id : Nat} (h : W P N w0 F0 Q k E) : W P N w0 F0 Q (.blk id :: k) E := fun a w hh => h a w hh

theorem W_abs {K : Act → World → Prop} (h : ∀ a w, Hold P N w0 F0 E a w → K a w) : W P N w0 F0 Q (.abs K :: k) E := fun a w hh => h a w hh

theorem W_exit {id : Nat} {k' : List KI} (hk : exits id k = some k') (h : W P N w0 F0 Q k' E) : W P N w0 F0 Q (.code (.exit id) :: k) E := fun a w hh => wp_exit (KQ_exit hk (h a w hh))

theorem W_cond {c : Operand} {x y : Code} {β : Bool} (hc : rdBool (opd [] E.at c) = some β) (hx : β = true → W P N w0 F0 Q (.code x :: k) E) (hy : β = false → W P N w0 F0 Q (.code y :: k) E) : W P N w0 F0 Q (.code (.cond c x y) :: k) E := by
  intro a w hh
  obtain ⟨hd, Gff, F, O, hf⟩ := hh
  have hv := rdBool_ok hf (opd_ok hf (ok := []) (fun g hg => by cases hg) c) hc
  exact wp_cond_split hv (fun ht => hx ht a w ⟨hd, Gff, F, O, hf⟩) (fun ht => hy ht a w ⟨hd, Gff, F, O, hf⟩)

theorem W_keep {E' : Env} {l : List (Nat × Nat)} (hk : E.keep l = some E') (h : W P N w0 F0 Q k E') : W P N w0 F0 Q k E := by
  intro a w hh
  obtain ⟨hd, Gff, F, O, hf⟩ := hh
  obtain ⟨F', O', hf'⟩ := hf.keep hk
  exact h a w ⟨hd, Gff, F', O', hf'⟩

/-- A region, and what is kept behind it. -/
def evalR (P : Program) (tys : Tys) (N : Nat) (A : Array Oper) (draw : Bool) (E : Env) (sup : List Sup) (l : List (Nat × Nat)) : Option (Env × List Prop) :=
  match evalRegion P tys N A.toList draw ⟨E, [], sup, []⟩ with
  | some st => match st.E.drop.keep l with
    | some E' => some (E', st.obs)
    | none => none
  | none => none

theorem W_region (hm : P.follows .mixedOrders = true) {tys : Tys} (ht : tys.ok P = true) {id : Nat} {draw : Bool} {A : Array Oper} {sup : List Sup} {l : List (Nat × Nat)} {E' : Env} {obs : List Prop} (hev : evalR P tys N A draw E sup l = some (E', obs)) (hobs : AllP obs)
    (h : W P N w0 F0 Q k E') : W P N w0 F0 Q (.code (.region id A draw) :: k) E := by
  unfold evalR at hev
  split at hev
  · rename_i st hst
    split at hev
    · rename_i E1 hk
      simp only [Option.some.injEq, Prod.mk.injEq] at hev
      obtain ⟨rfl, rfl⟩ := hev
      intro a w hh
      obtain ⟨hd, Gff, F, O, hf⟩ := hh
      refine region_sound hm ht hst (AllP_iff.1 hobs) hf hd fun a' w' F' O' hd' hf' => ?_
      obtain ⟨O2, hdr⟩ := hf'.drop (Gf2 := Gff)
      obtain ⟨F3, O3, hk3⟩ := hdr.keep hk
      exact h a' w' ⟨hd', Gff, F3, O3, hk3⟩
    · simp at hev
  · simp at hev

theorem W_loop {σ ρ : Type} {step : σ → Option (σ ⊕ ρ)} {En : σ → Env} {c : Code} {q : ρ → Prop} {x : σ} (h : Leads q (loopM step x))
    (hround : ∀ x (K : Act → World → Prop), Leads (fun s => match s with | .inl y => ∀ a w, Hold P N w0 F0 (En y) a w → K a w | .inr r => q r) (step x) → W P N w0 F0 Q (.code c :: .abs K :: k) (En x)) : W P N w0 F0 Q (.code (.loop c) :: k) (En x) := by
  intro a w hh
  cases hr : loopM step x with
  | none => rw [hr] at h; exact h.elim
  | some r =>
    rw [hr] at h
    obtain ⟨n, hn⟩ := loopM_iff.1 hr
    refine wp_loop_rounds n ?_
    have key : ∀ n x, iterM step n x = some r → ∀ a w, Hold P N w0 F0 (En x) a w → Code.rounds P c (KQ P k Q) n a w := by
      intro n
      induction n with
      | zero => intro x h; simp [iterM] at h
      | succ n ih =>
        intro x hx a w hh
        rw [rounds_succ]
        refine hround x (Code.rounds P c (KQ P k Q) n) ?_ a w hh
        simp only [iterM] at hx
        split at hx
        · simp at hx
        · rename_i y hy
          rw [hy]
          exact ih y hx
        · rename_i r' hr'
          rw [hr']
          simp only [Option.some.injEq] at hx
          subst hx
          exact h
    exact key n x hn a w hh

/-- The results, where they lie. -/
def retRes (tys : Tys) (e : Nat → S) : List ResultVar → Option (List Res)
  | [] => some []
  | .tmp t :: l => match e t, retRes tys e l with
    | .v n τ x, some r => some (⟨n, τ, x⟩ :: r)
    | _, _ => none
  | .cell t T :: l => match e t, retRes tys e l with
    | .box n τ x, some r => if tyAt tys T = some τ then some (⟨n, τ, x⟩ :: r) else none
    | _, _ => none

def resSlots : List ResultVar → List Nat
  | [] => []
  | .tmp t :: l => t :: resSlots l
  | .cell t _ :: l => t :: resSlots l

def readR (T : Array Value) : ResultVar → Sem Value
  | .tmp t => pure (T.getD t undef)
  | .cell ad t => do loadVar t (← asAddr (T.getD ad undef))

/-- What a call with these results comes to. -/
def Done (P : Program) (w0 : World) (F0 : Nat → Prop) (rs : List Res) : Ending → World → Prop :=
  fun e w' => ∃ vr F' O, e = .returned (tupled vr) ∧ ResRep P w' F' rs vr O ∧ Out w0 F0 w' F' O

theorem ret_sound {Gff : Nat × Bool → Bool} {a : Act} {w : World} {F : Nat → Prop} {O : Nat → List Nat} (hf : Fr P N w0 F0 Gff E.at a.tmps w F O) {tys : Tys} (ht : tys.ok P = true) : ∀ {l : List ResultVar} {rs : List Res}, retRes tys E.at l = some rs → distinct (resSlots l) = true →
    ∃ (vr : List Value) (On : List Nat), (l.mapM (readR a.tmps)).run P w = .ok vr w ∧ ResRep P w F rs vr On ∧ On.Nodup ∧ ∀ b ∈ On, ∃ t ∈ resSlots l, b ∈ O t := by
  intro l
  induction l with
  | nil =>
    intro rs h _
    simp only [retRes, Option.some.injEq] at h
    subst h
    exact ⟨[], [], by simp, ⟨rfl, rfl⟩, List.nodup_nil, fun b hb => by cases hb⟩
  | cons x l ih =>
    intro rs h hd
    have step : ∀ (t : Nat) (r : List Res) (n : Nat) (τ : Ty) (y : τ.den) (v : Value) (cs : List Value) (O1 : List Nat), resSlots (x :: l) = t :: resSlots l → retRes tys E.at l = some r → (readR a.tmps x).run P w = .ok v w → VS τ v cs → Rep P τ n w F y cs O1 → O1.Nodup → (∀ b ∈ O1, b ∈ O t) →
        ∃ (vr : List Value) (On : List Nat), ((x :: l).mapM (readR a.tmps)).run P w = .ok vr w ∧ ResRep P w F (⟨n, τ, y⟩ :: r) vr On ∧ On.Nodup ∧ ∀ b ∈ On, ∃ t ∈ resSlots (x :: l), b ∈ O t := by
      intro t r n τ y v cs O1 hsl hr hv hvs hrep hnd hsub
      rw [hsl] at hd
      simp only [distinct, Bool.and_eq_true, Bool.not_eq_true'] at hd
      obtain ⟨vr, On, k1, k2, k3, k4⟩ := ih hr hd.2
      refine ⟨v :: vr, O1 ++ On, by rw [List.mapM_cons]; simp [hv, k1], ⟨v, vr, cs, O1, On, rfl, rfl, hvs, hrep, k2⟩, List.nodup_append.2 ⟨hnd, k3, fun b hb b' hb' hbb => ?_⟩, fun b hb => ?_⟩
      · subst hbb
        obtain ⟨t', ht', hbt'⟩ := k4 b hb'
        have hne : t ≠ t' := fun hc => by
          have := any_beq.2 (hc ▸ ht')
          rw [hd.1] at this
          simp at this
        exact hf.apart t t' hne b (hsub b hb) hbt'
      · rw [hsl]
        rcases List.mem_append.1 hb with hb | hb
        · exact ⟨t, List.mem_cons_self .., hsub b hb⟩
        · obtain ⟨t', ht', hbt'⟩ := k4 b hb
          exact ⟨t', List.mem_cons_of_mem _ ht', hbt'⟩
    cases x with
    | tmp t =>
      simp only [retRes] at h
      split at h
      · rename_i n τ y r he hr
        simp only [Option.some.injEq] at h
        subst h
        have hrt := hf.rep t
        rw [he] at hrt
        obtain ⟨cs, h1, h2⟩ := hrt
        exact step t r n τ y _ cs (O t) rfl hr (by simp [readR]) h1 h2 (hf.nodup t) fun b hb => hb
      · simp at h
    | cell t T =>
      simp only [retRes] at h
      split at h
      · rename_i n τ y r he hr
        split at h
        · rename_i hT
          simp only [Option.some.injEq] at h
          subst h
          have hrt := hf.rep t
          rw [he] at hrt
          obtain ⟨b, cs, el, O', h1, h2, h3, h4⟩ := hrt
          obtain ⟨v, hv, hvs⟩ := run_loadVar (P := P) (w := w) (tyAt_ok ht hT) (at_heap h2) h3.length
          have hnd := hf.nodup t
          rw [h4, List.nodup_cons] at hnd
          exact step t r n τ y v cs O' rfl hr (by simp [readR, h1, asAddr, hv]) hvs h3 hnd.2 fun c hc => by rw [h4]; exact List.mem_cons_of_mem _ hc
        · simp at h
      · simp at h

theorem results_run {fn : Func} {T : Array Value} {w : World} {vr : List Value} (h : (fn.results.toList.mapM (readR T)).run P w = .ok vr w) : (results fn T).run P w = .ok (tupled vr) w := by
  have he : results fn T = (do let vs ← fn.results.mapM (readR T); pure (if h : vs.size = 1 then vs[0] else .tuple vs)) := by
    unfold results
    congr
  rw [he, Array.mapM_eq_mapM_toList]
  simp only [Sem.run_bind, Sem.run_map, h, Result.andThen_ok, Sem.run_pure]
  simp
  match vr with
  | [] => rfl
  | [v] => rfl
  | _ :: _ :: _ => rfl

theorem W_ret {tys : Tys} (ht : tys.ok P = true) {fn : Func} {rs : List Res} (hr : retRes tys E.at fn.results.toList = some rs) (hd : distinct (resSlots fn.results.toList) = true) : W P N w0 F0 (bodyPost P fn (Done P w0 F0 rs)) (.code .ret :: k) E := by
  intro a w hh
  obtain ⟨hdf, Gff, F, O, hf⟩ := hh
  obtain ⟨vr, On, h1, h2, h3, h4⟩ := ret_sound hf ht hr hd
  refine wp_ret (KQ_ret ⟨hdf, tupled vr, results_run h1, vr, F, On, rfl, h2, ⟨hf.below, hf.sub, hf.lt, hf.old, h3, fun b hb => ?_⟩⟩)
  obtain ⟨t, _, hbt⟩ := h4 b hb
  exact hf.own t b hbt

/-- Where the body ends. -/
theorem W_end {tys : Tys} (ht : tys.ok P = true) {fn : Func} {rs : List Res} (hr : retRes tys E.at fn.results.toList = some rs) (hd : distinct (resSlots fn.results.toList) = true) : W P N w0 F0 (bodyPost P fn (Done P w0 F0 rs)) [] E := by
  intro a w hh
  obtain ⟨hdf, Gff, F, O, hf⟩ := hh
  obtain ⟨vr, On, h1, h2, h3, h4⟩ := ret_sound hf ht hr hd
  refine ⟨hdf, tupled vr, results_run h1, vr, F, On, rfl, h2, ⟨hf.below, hf.sub, hf.lt, hf.old, h3, fun b hb => ?_⟩⟩
  obtain ⟨t, _, hbt⟩ := h4 b hb
  exact hf.own t b hbt

def argEnv : Nat → List TV → Env
  | _, [] => []
  | i, t :: ts => (i, .v 0 t.1 t.2) :: argEnv (i + 1) ts

theorem argEnv_rep {w : World} {F : Nat → Prop} {Gff : Nat × Bool → Bool} : ∀ {ts : List TV} {vs pre post : List Value} {i : Nat} {e : Nat → S}, ArgsRep P w F ts vs → pre.length = i → ∀ t, i ≤ t → (post.getD (t - i - ts.length) undef = undef ∨ t < i + ts.length) → SRep P Gff w F (pre ++ vs ++ post).toArray e ((pre ++ vs ++ post).toArray.getD t undef) ((argEnv i ts).at t) []
  | [], vs, pre, post, i, e, h, hp, t, ht, _ => rfl
  | tv :: ts, vs, pre, post, i, e, h, hp, t, ht, hpost => by
    obtain ⟨v, vs', cs, rfl, h1, h2, h3⟩ := h
    simp only [argEnv, Env.at]
    by_cases hti : t = i
    · subst hti
      simp only [Nat.beq_refl, if_true]
      refine ⟨cs, ?_, h2⟩
      have : (pre ++ v :: vs' ++ post).toArray.getD t undef = v := by
        subst hp
        simp [Array.getD, List.getElem_append_right]
      rw [this]
      exact h1
    · have hb : Nat.beq t i = false := by
        cases hb : Nat.beq t i
        · rfl
        · exact absurd (Nat.eq_of_beq_eq_true hb) hti
      simp only [hb, Bool.false_eq_true, if_false]
      have := argEnv_rep (Gff := Gff) (e := e) (ts := ts) (vs := vs') (pre := pre ++ [v]) (post := post) (i := i + 1) h3 (by simp [hp]) t (by omega) (by
        simp only [List.length_cons] at hpost
        rw [show t - (i + 1) - ts.length = t - i - (ts.length + 1) from by omega]
        rcases hpost with h | h
        · exact .inl h
        · exact .inr (by omega))
      simpa using this

theorem argEnv_lt : ∀ {ts : List TV} {i t : Nat}, t < i → (argEnv i ts).at t = .dead
  | [], i, t, _ => rfl
  | tv :: ts, i, t, h => by
    simp only [argEnv, Env.at]
    have hb : Nat.beq t i = false := by
      cases hb : Nat.beq t i
      · rfl
      · have := Nat.eq_of_beq_eq_true hb; omega
    simp only [hb, Bool.false_eq_true, if_false]
    exact argEnv_lt (by omega)

theorem ArgsRep.len {w : World} {F : Nat → Prop} : ∀ {ts : List TV} {vs : List Value}, ArgsRep P w F ts vs → vs.length = ts.length
  | [], vs, h => by rw [show vs = [] from h]; rfl
  | t :: ts, vs, h => by
    obtain ⟨v, vs', cs, rfl, _, _, h⟩ := h
    simp [h.len]

/-- A FUNCTION KEEPS ITS CONTRACT, if its body leads there. -/
theorem acall_of {f : FuncId} {fn : Func} {c : Code} (hf : P.funcs[f]? = some fn) (hn : (fn.name == "runtime.NumGoroutine") = false) (hb : fn.body = some c) {args : List TV} {rs : List Res} (hlen : Nat.ble args.length fn.ntmps = true)
    (h : ∀ w0 F0, W P fn.ntmps w0 F0 (bodyPost P fn (Done P w0 F0 rs)) [.code c] (argEnv 0 args)) : ACall P f args rs := by
  refine ⟨⟨fn, hf, hn, by rw [hb]; rfl⟩, fun w F vs hlt hargs => ?_⟩
  have hl := hargs.len
  have hle := Nat.le_of_ble_eq_true hlen
  refine calls_of_wp hf hb ?_
  refine h w F _ w ⟨rfl, fun _ => false, F, fun _ => [], ?_⟩
  have htm : vs.toArray ++ Array.replicate (fn.ntmps - vs.toArray.size) undef = ([] ++ vs ++ List.replicate (fn.ntmps - vs.length) undef).toArray := by
    apply Array.toList_inj.1; simp
  rw [htm]
  refine ⟨by simp [hl]; omega, RowKit.Below.refl _ _, fun _ h => h, hlt, fun _ h _ => h, fun t => ?_, fun _ => List.nodup_nil, (fun _ b hb => by cases hb), (fun _ _ _ b hb => by cases hb)⟩
  exact argEnv_rep hargs rfl t (Nat.zero_le _) (.inl (by
    rw [List.getD_eq_getElem?_getD, List.getElem?_replicate]
    split <;> rfl))
end
end Go.Tom
