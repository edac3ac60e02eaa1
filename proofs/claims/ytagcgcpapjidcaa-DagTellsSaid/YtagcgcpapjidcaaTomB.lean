/- Places inside a value: reading there, and writing there. -/
import Derived.Test.YtagcgcpapjidcaaTomA
set_option linter.unusedVariables false
set_option linter.unusedSimpArgs false
namespace Go.Tom
open Go

inductive Step where
  | fld (i : Nat)
  | idx (i : Int)

abbrev TV := (τ : Ty) × τ.den

/-- Reading and writing a list at a number. -/
def rd {α : Type} (d : α) (xs : List α) (i : Int) : α := xs.getD i.toNat d
def wr {α : Type} (xs : List α) (i : Int) (y : α) : List α := xs.set i.toNat y

def fldTy : Ty → Nat → Option Ty
  | .prod a _, 0 => some a
  | .prod _ b, i + 1 => fldTy b i
  | .int k, 0 => some (.int k)
  | .bool, 0 => some .bool
  | .str, 0 => some .str
  | .slice e, 0 => some (.slice e)
  | .st a, 0 => some (.st a)
  | .cptr a, 0 => some (.cptr a)
  | .fn a r, 0 => some (.fn a r)
  | _, _ => none

def fldOff : Ty → Nat → Nat
  | .prod _ _, 0 => 0
  | .prod a b, i + 1 => a.sz + fldOff b i
  | _, _ => 0

def fldGet : (a : Ty) → a.den → Nat → Option TV
  | .prod a _, x, 0 => some ⟨a, x.1⟩
  | .prod _ b, x, i + 1 => fldGet b x.2 i
  | .int k, x, 0 => some ⟨.int k, x⟩
  | .bool, x, 0 => some ⟨.bool, x⟩
  | .str, x, 0 => some ⟨.str, x⟩
  | .slice e, x, 0 => some ⟨.slice e, x⟩
  | .st a, x, 0 => some ⟨.st a, x⟩
  | .cptr a, x, 0 => some ⟨.cptr a, x⟩
  | .fn a r, x, 0 => some ⟨.fn a r, x⟩
  | _, _, _ => none

def cast? (τ : Ty) (t : TV) : Option τ.den := if h : t.1 = τ then some (h ▸ t.2) else none

theorem cast?_self {τ : Ty} (x : τ.den) : cast? τ ⟨τ, x⟩ = some x := by simp [cast?]

def fldSet : (a : Ty) → a.den → Nat → TV → Option a.den
  | .prod a _, x, 0, t => (cast? a t).map fun y => (y, x.2)
  | .prod _ b, x, i + 1, t => (fldSet b x.2 i t).map fun y => (x.1, y)
  | .int k, _, 0, t => cast? (.int k) t
  | .bool, _, 0, t => cast? .bool t
  | .str, _, 0, t => cast? .str t
  | .slice e, _, 0, t => cast? (.slice e) t
  | .st a, _, 0, t => cast? (.st a) t
  | .cptr a, _, 0, t => cast? (.cptr a) t
  | .fn a r, _, 0, t => cast? (.fn a r) t
  | _, _, _, _ => none

def get : List Step → (τ : Ty) → τ.den → Option TV
  | [], τ, x => some ⟨τ, x⟩
  | .idx i :: p, .slice e, xs => get p e (rd e.zero xs i)
  | .fld f :: p, .st a, x => match fldGet a x f with
    | some t => get p t.1 t.2
    | none => none
  | _ :: _, _, _ => none

def put : List Step → (τ : Ty) → τ.den → TV → Option τ.den
  | [], τ, _, t => cast? τ t
  | .idx i :: p, .slice e, xs, t => (put p e (rd e.zero xs i) t).map fun y => wr xs i y
  | .fld f :: p, .st a, x, t => match fldGet a x f with
    | some s => match put p s.1 s.2 t with
      | some y => fldSet a x f ⟨s.1, y⟩
      | none => none
    | none => none
  | _ :: _, _, _, _ => none

def idxs : List Step → Nat
  | [] => 0
  | .idx _ :: p => idxs p + 1
  | .fld _ :: p => idxs p

/-- A place: the cells that lie behind a path, and where (none: in the slot itself). -/
def Place (w : World) : List Step → Ty → List Value → Option (Nat × Nat) → Ty → List Value → Option (Nat × Nat) → Prop
  | [], τ, cs, l, τ', cs', l' => τ' = τ ∧ cs' = cs ∧ l' = l
  | .idx i :: p, .slice e, cs, _, τ', cs', l' => ∃ b o len cap cs1, cs = [.slice (some ⟨b, o, none⟩) len cap] ∧ 0 ≤ i ∧ i.toNat < len ∧ cs1.length = e.sz ∧
      At w b (o + i.toNat * e.sz) cs1 ∧ Place w p e cs1 (some (b, o + i.toNat * e.sz)) τ' cs' l'
  | .fld f :: p, .st a, cs, l, τ', cs', l' => ∃ a1, fldTy a f = some a1 ∧
      Place w p a1 ((cs.drop (fldOff a f)).take a1.sz) (l.map fun q => (q.1, q.2 + fldOff a f)) τ' cs' l'
  | _ :: _, _, _, _, _, _, _ => False

theorem fldGet_ty : ∀ {a : Ty} {x : a.den} {f : Nat} {t : TV}, fldGet a x f = some t → fldTy a f = some t.1 := by
  intro a
  induction a with
  | prod a b iha ihb =>
    intro x f t h
    cases f with
    | zero => simp [fldGet] at h; subst h; rfl
    | succ f => exact ihb h
  | _ => intro x f t h; cases f <;> simp [fldGet] at h; subst h; rfl

theorem At.append {w : World} {b o : Nat} {xs ys : List Value} : At w b o (xs ++ ys) ↔ At w b o xs ∧ At w b (o + xs.length) ys := by
  constructor
  · intro h
    refine ⟨fun j hj => ?_, fun j hj => ?_⟩
    · have := h j (by simp; omega)
      rwa [List.getElem_append_left hj] at this
    · have := h (xs.length + j) (by simp; omega)
      rw [List.getElem_append_right (by omega)] at this
      simpa [Nat.add_assoc] using this
  · rintro ⟨h1, h2⟩ j hj
    by_cases hl : j < xs.length
    · rw [List.getElem_append_left hl]; exact h1 j hl
    · rw [List.getElem_append_right (by omega)]
      have := h2 (j - xs.length) (by simp at hj; omega)
      rw [← this]; congr 2; omega

/-- At a field: what lies there, and what else may lie there. -/
theorem fieldFocus {P : Program} {n : Nat} {w : World} {F : Nat → Prop} : ∀ {a : Ty} {x : a.den} {f : Nat} {t : TV} {cs : List Value} {O : List Nat}, Rep P a n w F x cs O → fldGet a x f = some t →
    ∃ pre csf post Of Or, cs = pre ++ (csf ++ post) ∧ pre.length = fldOff a f ∧ csf.length = t.1.sz ∧ O.Perm (Of ++ Or) ∧ Rep P t.1 n w F t.2 csf Of ∧
      ∀ w1 F1 (y : t.1.den) cs1 O1 xn, fldSet a x f ⟨t.1, y⟩ = some xn → Ext w F w1 F1 → (∀ c ∈ Or, BSame w w1 c) → Rep P t.1 n w1 F1 y cs1 O1 →
        ∃ On, Rep P a n w1 F1 xn (pre ++ (cs1 ++ post)) On ∧ On.Perm (O1 ++ Or) := by
  intro a
  have leaf : ∀ {a : Ty} {x : a.den} {cs : List Value} {O : List Nat}, fldOff a 0 = 0 → (∀ t, fldSet a x 0 t = cast? a t) → Rep P a n w F x cs O →
      ∃ pre csf post Of Or, cs = pre ++ (csf ++ post) ∧ pre.length = fldOff a 0 ∧ csf.length = a.sz ∧ O.Perm (Of ++ Or) ∧ Rep P a n w F x csf Of ∧
      ∀ w1 F1 (y : a.den) cs1 O1 xn, fldSet a x 0 ⟨a, y⟩ = some xn → Ext w F w1 F1 → (∀ c ∈ Or, BSame w w1 c) → Rep P a n w1 F1 y cs1 O1 →
        ∃ On, Rep P a n w1 F1 xn (pre ++ (cs1 ++ post)) On ∧ On.Perm (O1 ++ Or) := by
    intro a x cs O ho hs h
    refine ⟨[], cs, [], O, [], by simp, ho.symm ▸ rfl, h.length, by simp, h, fun w1 F1 y cs1 O1 xn hset _ _ hr => ?_⟩
    rw [hs, cast?_self] at hset
    obtain rfl := Option.some.inj hset
    exact ⟨O1, by simpa using hr, by simp⟩
  induction a with
  | prod a b iha ihb =>
    intro x f t cs O h hg
    obtain ⟨cs1, cs2, O1, O2, rfl, rfl, h1, h2, r1, r2⟩ := h
    cases f with
    | zero =>
      simp only [fldGet, Option.some.injEq] at hg
      subst hg
      refine ⟨[], cs1, cs2, O1, O2, by simp, rfl, h1, List.Perm.refl _, r1, fun w1 F1 y cs1' O1' xn hset he hc hr => ?_⟩
      simp only [fldSet, cast?_self, Option.map_some, Option.some.injEq] at hset
      subst hset
      refine ⟨O1' ++ O2, ⟨cs1', cs2, O1', O2, by simp, rfl, hr.length, h2, hr, r2.mono he hc⟩, List.Perm.refl _⟩
    | succ f =>
      obtain ⟨pre, csf, post, Of, Or, rfl, hp, hl, ho, hr, hw⟩ := ihb r2 hg
      refine ⟨cs1 ++ pre, csf, post, Of, Or ++ O1, by simp, by simp [fldOff, hp, h1], hl, ?_, hr, fun w1 F1 y cs1' O1' xn hset he hc hr' => ?_⟩
      · have := (ho.append_left O1).trans (List.perm_append_comm)
        simpa using this
      · simp only [fldSet, Option.map_eq_some_iff] at hset
        obtain ⟨y2, hset, rfl⟩ := hset
        obtain ⟨On, hrn, hon⟩ := hw w1 F1 y cs1' O1' y2 hset he (fun c hc' => hc c (List.mem_append_left _ hc')) hr'
        refine ⟨O1 ++ On, ⟨cs1, pre ++ (cs1' ++ post), O1, On, by simp, rfl, h1, hrn.length, r1.mono he fun c hc' => hc c (List.mem_append_right _ hc'), hrn⟩, ?_⟩
        have := (hon.append_left O1).trans (List.perm_append_comm)
        simpa using this
  | int k =>
    intro x f t cs O h hg
    cases f <;> simp only [fldGet, Option.some.injEq, reduceCtorEq] at hg
    subst hg
    exact leaf rfl (fun _ => rfl) h
  | bool =>
    intro x f t cs O h hg
    cases f <;> simp only [fldGet, Option.some.injEq, reduceCtorEq] at hg
    subst hg
    exact leaf rfl (fun _ => rfl) h
  | str =>
    intro x f t cs O h hg
    cases f <;> simp only [fldGet, Option.some.injEq, reduceCtorEq] at hg
    subst hg
    exact leaf rfl (fun _ => rfl) h
  | slice e _ =>
    intro x f t cs O h hg
    cases f <;> simp only [fldGet, Option.some.injEq, reduceCtorEq] at hg
    subst hg
    exact leaf rfl (fun _ => rfl) h
  | st e _ =>
    intro x f t cs O h hg
    cases f <;> simp only [fldGet, Option.some.injEq, reduceCtorEq] at hg
    subst hg
    exact leaf rfl (fun _ => rfl) h
  | cptr e _ =>
    intro x f t cs O h hg
    cases f <;> simp only [fldGet, Option.some.injEq, reduceCtorEq] at hg
    subst hg
    exact leaf rfl (fun _ => rfl) h
  | fn e r _ _ =>
    intro x f t cs O h hg
    cases f <;> simp only [fldGet, Option.some.injEq, reduceCtorEq] at hg
    subst hg
    exact leaf rfl (fun _ => rfl) h

/-- Block c behind a write of the cells cs1 at l'. -/
structure ChgAt (w w1 : World) (c : Nat) (l' : Option (Nat × Nat)) (cs1 : List Value) : Prop where
  own : ∀ n, OwnBlk w c n → OwnBlk w1 c n
  out : ∀ j, (∀ o, l' = some (c, o) → j < o ∨ o + cs1.length ≤ j) → w1.cell? ⟨c, j, none⟩ = w.cell? ⟨c, j, none⟩
  inn : ∀ o, l' = some (c, o) → At w1 c o cs1

theorem ChgAt.same {w w1 : World} {c : Nat} {l' : Option (Nat × Nat)} {cs1 : List Value} (h : ChgAt w w1 c l' cs1) (hne : ∀ o, l' ≠ some (c, o)) : BSame w w1 c :=
  ⟨fun j => h.out j fun o ho => absurd ho (hne o), h.own⟩

theorem At.unique {w : World} {b o : Nat} {xs ys : List Value} (hx : At w b o xs) (hy : At w b o ys) (hl : xs.length = ys.length) : xs = ys := by
  apply List.ext_getElem hl
  intro i h1 h2
  have a := hx i h1
  have b := hy i h2
  rw [a] at b
  exact Option.some.inj b

theorem flatten_split {α : Type} : ∀ (l : List (List α)) (i : Nat) (h : i < l.length), ∃ r, l.flatten.Perm (l[i] ++ r) ∧ ∀ y, (l.set i y).flatten.Perm (y ++ r) ∧ (∀ j (hj : j < l.length), j ≠ i → ∀ b ∈ l[j], b ∈ r) := by
  intro l
  induction l with
  | nil => intro i h; simp at h
  | cons a l ih =>
    intro i h
    cases i with
    | zero =>
      refine ⟨l.flatten, by simp, fun y => ⟨by simp, fun j hj hne b hb => ?_⟩⟩
      cases j with
      | zero => exact absurd rfl hne
      | succ j => exact List.mem_flatten.2 ⟨_, List.getElem_mem (by simpa using hj), hb⟩
    | succ i =>
      obtain ⟨r, h1, h2⟩ := ih i (by simpa using h)
      refine ⟨a ++ r, ?_, fun y => ⟨?_, fun j hj hne b hb => ?_⟩⟩
      · simp only [List.flatten_cons, List.getElem_cons_succ]
        exact (h1.append_left a).trans (by rw [← List.append_assoc, ← List.append_assoc]; exact List.perm_append_comm.append_right r)
      · simp only [List.set_cons_succ, List.flatten_cons]
        exact ((h2 y).1.append_left a).trans (by rw [← List.append_assoc, ← List.append_assoc]; exact List.perm_append_comm.append_right r)
      · cases j with
        | zero => exact List.mem_append_left _ hb
        | succ j => exact List.mem_append_right _ ((h2 y).2 j (by simpa using hj) (by omega) b hb)

theorem fld_in : ∀ {a a1 : Ty} {f : Nat}, fldTy a f = some a1 → fldOff a f + a1.sz ≤ a.sz := by
  intro a
  induction a with
  | prod a b iha ihb =>
    intro a1 f h
    cases f with
    | zero => simp only [fldTy, Option.some.injEq] at h; subst h; simp [fldOff, Ty.sz]
    | succ f => have := ihb h; simp only [fldOff, Ty.sz]; omega
  | _ => intro a1 f h; cases f <;> simp only [fldTy, Option.some.injEq, reduceCtorEq] at h; subst h; simp [fldOff]

/-- A place that is reached by fields alone lies in the cells. -/
theorem place_in {w : World} : ∀ (p : List Step) {τ τ' : Ty} {cs cs' : List Value} {b o : Nat} {l' : Option (Nat × Nat)}, Place w p τ cs (some (b, o)) τ' cs' l' → idxs p = 0 → cs.length = τ.sz →
    ∃ o', l' = some (b, o') ∧ o ≤ o' ∧ o' + τ'.sz ≤ o + τ.sz := by
  intro p
  induction p with
  | nil =>
    intro τ τ' cs cs' b o l' h _ _
    obtain ⟨rfl, rfl, rfl⟩ := h
    exact ⟨o, rfl, Nat.le_refl _, Nat.le_refl _⟩
  | cons s p ih =>
    intro τ τ' cs cs' b o l' h hi hl
    cases s with
    | idx i => simp [idxs] at hi
    | fld f =>
      cases τ with
      | st a =>
        obtain ⟨a1, ha, h⟩ := h
        have hin := fld_in ha
        have hl' : cs.length = a.sz := hl
        obtain ⟨o', h1, h2, h3⟩ := ih h (by simpa [idxs] using hi) (by simp; omega)
        refine ⟨o', h1, by omega, ?_⟩
        show o' + τ'.sz ≤ o + a.sz
        omega
      | _ => exact h.elim

theorem focus {P : Program} {w : World} {F : Nat → Prop} : ∀ (p : List Step) {τ : Ty} {n : Nat} {x : τ.den} {cs : List Value} {O : List Nat} {l : Option (Nat × Nat)} {t : TV} {cs' : List Value} {l' : Option (Nat × Nat)},
    Rep P τ n w F x cs O → O.Nodup → idxs p ≤ n → Place w p τ cs l t.1 cs' l' → get p τ x = some t → (∀ b o, l = some (b, o) → b ∉ O) → (∀ b o, l = some (b, o) → At w b o cs) →
    ∃ O' Or, O.Perm (O' ++ Or) ∧ Rep P t.1 (n - idxs p) w F t.2 cs' O' ∧ (∀ b o, l' = some (b, o) → At w b o cs') ∧ (∀ b o, l' = some (b, o) → b ∈ Or ∨ (idxs p = 0 ∧ ∃ o', l = some (b, o'))) ∧
      (∀ w1, (∀ c ∈ Or, BSame w w1 c) → Place w1 p τ cs l t.1 cs' l') ∧
      ∀ w1 F1 (y : t.1.den) cs1 O1 xn, put p τ x ⟨t.1, y⟩ = some xn → Ext w F w1 F1 → (∀ c, (c ∈ Or ∨ ∃ o, l = some (c, o)) → ChgAt w w1 c l' cs1) → Rep P t.1 (n - idxs p) w1 F1 y cs1 O1 →
        ∃ csn On, Rep P τ n w1 F1 xn csn On ∧ On.Perm (O1 ++ Or) ∧ (∀ b o, l = some (b, o) → At w1 b o csn) ∧ (0 < idxs p → csn = cs) := by
  intro p
  induction p with
  | nil =>
    intro τ n x cs O l t cs' l' h hnd hn hp hg hlO hlat
    obtain ⟨ht, rfl, rfl⟩ := hp
    simp only [get, Option.some.injEq] at hg
    subst hg
    refine ⟨O, [], by simp, by simpa [idxs] using h, hlat, fun b o hb => .inr ⟨rfl, o, hb⟩, fun w1 _ => ⟨ht, rfl, rfl⟩, fun w1 F1 y cs1 O1 xn hput he hc hr => ?_⟩
    simp only [put, cast?_self, Option.some.injEq] at hput
    subst hput
    exact ⟨cs1, O1, by simpa [idxs] using hr, by simp, fun b o hb => (hc b (.inr ⟨o, hb⟩)).inn o hb, fun h => absurd h (by simp [idxs])⟩
  | cons s p ih =>
    intro τ n x cs O l t cs' l' h hnd hn hp hg hlO hlat
    cases s with
    | idx i =>
      cases τ with
      | slice e =>
        obtain ⟨b, o, len, cap, cs1, hcs, hi0, hil, hcl1, hat1, hp⟩ := hp
        obtain ⟨a, cap', css, Os, hcs', hcap, hcl, hol, hr, hs⟩ := h
        rw [hcs] at hcs'
        simp only [List.cons.injEq, Value.slice.injEq, and_true] at hcs'
        obtain ⟨rfl, hlen, rfl⟩ := hcs'
        subst hlen
        rcases hs with ⟨hn0, _⟩ | ⟨hn0, hc0, _⟩ | ⟨hn0, b', o', hab, hat, hown, rfl⟩
        · simp [idxs] at hn; omega
        · omega
        · simp only [Option.some.injEq, Addr.mk.injEq, and_true] at hab
          obtain ⟨rfl, rfl⟩ := hab
          have hi1 : i.toNat < css.length := by omega
          have hi2 : i.toNat < Os.length := by omega
          obtain ⟨hri, hli⟩ := hr i.toNat hil hi1 hi2
          obtain rfl : cs1 = css[i.toNat] := hat1.unique (hat i.toNat hi1) (by omega)
          have hrd : rd e.zero x i = x[i.toNat] := by simp [rd, List.getD, List.getElem?_eq_getElem hil]
          simp only [get] at hg
          rw [hrd] at hg
          obtain ⟨rest, hperm, hset⟩ := flatten_split Os i.toNat hi2
          have hnd' := hnd
          rw [List.nodup_cons] at hnd'
          obtain ⟨hbO, hndO⟩ := hnd'
          have hnd2 : (Os[i.toNat] ++ rest).Nodup := hperm.nodup_iff.1 hndO
          have hmem : ∀ c ∈ Os[i.toNat], c ∈ Os.flatten := fun c hc => List.mem_flatten.2 ⟨_, List.getElem_mem hi2, hc⟩
          obtain ⟨O', Or, ho, hrep, hlat', hlb, hst, hw⟩ := ih hri (List.nodup_append.1 hnd2).1 (by simp [idxs] at hn; omega) hp hg
            (fun b1 o1 hb1 => by simp only [Option.some.injEq, Prod.mk.injEq] at hb1; obtain ⟨rfl, _⟩ := hb1; exact fun hc => hbO (hmem _ hc))
            (fun b1 o1 hb1 => by simp only [Option.some.injEq, Prod.mk.injEq] at hb1; obtain ⟨rfl, rfl⟩ := hb1; exact hat _ hi1)
          have hOrO : ∀ c ∈ Or, c ∈ Os[i.toNat] := fun c hc => ho.mem_iff.2 (List.mem_append_right _ hc)
          have hrestO : ∀ c ∈ rest, c ∈ Os.flatten := fun c hc => hperm.mem_iff.2 (List.mem_append_right _ hc)
          refine ⟨O', b :: (Or ++ rest), ?_, by simpa [idxs, Nat.sub_sub, Nat.add_comm] using hrep, hlat', fun b1 o1 hb1 => ?_, fun w1 hs1 => ⟨b, o, x.length, cap, css[i.toNat], hcs, hi0, hil, hcl1, hat1.same (hs1 b (List.mem_cons_self ..)), hst w1 fun c hc => hs1 c (List.mem_cons_of_mem _ (List.mem_append_left _ hc))⟩, fun w1 F1 y csn1 O1 xn hput he hc hrn => ?_⟩
          · refine (List.Perm.cons b (hperm.trans (ho.append_right rest))).trans ?_
            rw [List.append_assoc]
            exact List.perm_middle.symm
          · rcases hlb b1 o1 hb1 with hb | ⟨_, o2, hb⟩
            · exact .inl (List.mem_cons_of_mem _ (List.mem_append_left _ hb))
            · simp only [Option.some.injEq, Prod.mk.injEq] at hb
              obtain ⟨rfl, _⟩ := hb
              exact .inl (List.mem_cons_self ..)
          · simp only [put, Option.map_eq_some_iff] at hput
            rw [hrd] at hput
            obtain ⟨y', hput, rfl⟩ := hput
            obtain ⟨csi, Oi, hri', hoi, hati, hsame⟩ := hw w1 F1 y csn1 O1 y' hput he
              (fun c hc' => hc c (.inl (by
                rcases hc' with hc' | ⟨o2, hc'⟩
                · exact List.mem_cons_of_mem _ (List.mem_append_left _ hc')
                · simp only [Option.some.injEq, Prod.mk.injEq] at hc'
                  obtain ⟨rfl, _⟩ := hc'
                  exact List.mem_cons_self ..)))
              (by simpa [idxs, Nat.sub_sub, Nat.add_comm] using hrn)
            have hati' := hati b _ rfl
            have hb1 : ChgAt w w1 b l' csn1 := hc b (.inl (List.mem_cons_self ..))
            have hlsz : csi.length = e.sz := hri'.length
            have hl1 : csn1.length = t.1.sz := hrn.length
            -- the place, if it lies in this row, lies in the cells of element i
            have hin : ∀ o1, l' = some (b, o1) → o + i.toNat * e.sz ≤ o1 ∧ o1 + csn1.length ≤ o + i.toNat * e.sz + e.sz := by
              intro o1 ho1
              rcases hlb b o1 ho1 with hb | ⟨hz, _⟩
              · exact absurd (hmem _ (hOrO _ hb)) hbO
              · obtain ⟨o2, h1, h2, h3⟩ := place_in p hp hz hli
                rw [ho1] at h1
                simp only [Option.some.injEq, Prod.mk.injEq, true_and] at h1
                subst h1
                omega
            have hother : ∀ j (hj : j < css.length), j ≠ i.toNat → At w1 b (o + j * e.sz) css[j] := by
              intro j hj hne k hk
              have hlj : css[j].length = e.sz := (hr j (by omega) hj (by omega)).2
              have key : ∀ o1, l' = some (b, o1) → o + j * e.sz + k < o1 ∨ o1 + csn1.length ≤ o + j * e.sz + k := by
                intro o1 ho1
                have := hin o1 ho1
                have hlt : j < i.toNat ∨ i.toNat < j := by omega
                rcases hlt with hlt | hlt
                · left
                  have : (j + 1) * e.sz ≤ i.toNat * e.sz := Nat.mul_le_mul_right _ hlt
                  rw [Nat.add_mul] at this
                  omega
                · right
                  have : (i.toNat + 1) * e.sz ≤ j * e.sz := Nat.mul_le_mul_right _ hlt
                  rw [Nat.add_mul] at this
                  omega
              rw [hb1.out _ key]
              exact hat j hj k hk
            have hbs : ∀ c ∈ rest, BSame w w1 c := by
              intro c hcr
              refine (hc c (.inl (List.mem_cons_of_mem _ (List.mem_append_right _ hcr)))).same fun o1 ho1 => ?_
              rcases hlb c o1 ho1 with hb | ⟨_, o2, hb⟩
              · exact (List.nodup_append.1 hnd2).2.2 c (hOrO c hb) c hcr rfl
              · simp only [Option.some.injEq, Prod.mk.injEq] at hb
                obtain ⟨rfl, _⟩ := hb
                exact hbO (hrestO _ hcr)
            refine ⟨[.slice (some ⟨b, o, none⟩) x.length cap], b :: (Os.set i.toNat Oi).flatten, ⟨some ⟨b, o, none⟩, cap, css.set i.toNat csi, Os.set i.toNat Oi, by simp [wr], by simpa [wr] using hcap, by simp [wr, hcl], by simp [wr, hol], fun j hj h1 h2 => ?_, .inr (.inr ⟨hn0, b, o, rfl, fun j h1 => ?_, hb1.own _ hown, rfl⟩)⟩, ?_, fun b1 o1 hb1' => ?_, fun _ => hcs.symm⟩
            · simp only [wr, List.length_set] at hj h1 h2
              by_cases hji : j = i.toNat
              · subst hji
                simp only [wr, List.getElem_set_self]
                exact ⟨hri', hlsz⟩
              · have hji' : i.toNat ≠ j := fun h => hji h.symm
                simp only [wr, List.getElem_set_ne hji']
                exact ⟨(hr j hj h1 h2).1.mono he fun c hcj => hbs c ((hset []).2 j h2 hji c hcj), (hr j hj h1 h2).2⟩
            · simp only [List.length_set] at h1
              by_cases hji : j = i.toNat
              · subst hji
                simp only [List.getElem_set_self]
                exact hati'
              · have hji' : i.toNat ≠ j := fun h => hji h.symm
                simp only [List.getElem_set_ne hji']
                exact hother j h1 hji
            · refine (List.Perm.cons b ((hset Oi).1.trans (hoi.append_right rest))).trans ?_
              rw [List.append_assoc]
              exact List.perm_middle.symm
            · -- the root's own cells: as they were
              have hat0 := hlat b1 o1 hb1'
              intro k hk
              have hkk : k = 0 := by simp at hk; exact hk
              subst hkk
              have hch := hc b1 (.inr ⟨o1, hb1'⟩)
              have hne : ∀ o2, l' ≠ some (b1, o2) := by
                intro o2 ho2
                rcases hlb b1 o2 ho2 with hb | ⟨_, o3, hb⟩
                · exact hlO b1 o1 hb1' (List.mem_cons_of_mem _ (hmem _ (hOrO _ hb)))
                · simp only [Option.some.injEq, Prod.mk.injEq] at hb
                  obtain ⟨rfl, _⟩ := hb
                  exact hlO _ o1 hb1' (List.mem_cons_self ..)
              rw [(hch.same hne).cell]
              have := hat0 0 (by rw [hcs]; simp)
              simpa [hcs] using this
      | _ => exact hp.elim
    | fld f =>
      cases τ with
      | st a =>
        obtain ⟨a1, ha1, hp⟩ := hp
        simp only [get] at hg
        cases hfg : fldGet a x f with
        | none => rw [hfg] at hg; simp at hg
        | some t1 =>
          rw [hfg] at hg
          simp only at hg
          have hty := fldGet_ty hfg
          rw [ha1] at hty
          obtain rfl := Option.some.inj hty
          obtain ⟨pre, csf, post, Of, Or, rfl, hpl, hcl, hof, hrf, hwf⟩ := fieldFocus (a := a) h hfg
          have hmid : ((pre ++ (csf ++ post)).drop (fldOff a f)).take t1.1.sz = csf := by
            rw [← hpl, List.drop_left, ← hcl, List.take_left]
          rw [hmid] at hp
          have hnd2 : (Of ++ Or).Nodup := hof.nodup_iff.1 hnd
          obtain ⟨O', Or1, ho, hrep, hlat', hlb, hst, hw⟩ := ih hrf (List.nodup_append.1 hnd2).1 (by simpa [idxs] using hn) hp hg
            (fun b1 o1 hb1 hc => by
              simp only [Option.map_eq_some_iff, Prod.mk.injEq, Prod.exists] at hb1
              obtain ⟨b2, o2, hl, rfl, _⟩ := hb1
              exact hlO _ o2 hl (hof.mem_iff.2 (List.mem_append_left _ hc)))
            (fun b1 o1 hb1 => by
              simp only [Option.map_eq_some_iff, Prod.mk.injEq, Prod.exists] at hb1
              obtain ⟨b2, o2, hl, rfl, rfl⟩ := hb1
              have := hlat _ _ hl
              rw [At.append, At.append, hpl] at this
              exact this.2.1)
          have hOr1 : ∀ c ∈ Or1, c ∈ Of := fun c hc => ho.mem_iff.2 (List.mem_append_right _ hc)
          refine ⟨O', Or1 ++ Or, ?_, by simpa [idxs] using hrep, hlat', fun b1 o1 hb1 => ?_, fun w1 hs1 => ⟨t1.1, ha1, by rw [hmid]; exact hst w1 fun c hc => hs1 c (List.mem_append_left _ hc)⟩, fun w1 F1 y csn1 O1 xn hput he hc hrn => ?_⟩
          · rw [← List.append_assoc]
            exact hof.trans (ho.append_right Or)
          · rcases hlb b1 o1 hb1 with hb | ⟨hz, o2, hb⟩
            · exact .inl (List.mem_append_left _ hb)
            · simp only [Option.map_eq_some_iff, Prod.mk.injEq, Prod.exists] at hb
              obtain ⟨b2, o3, hl, rfl, _⟩ := hb
              exact .inr ⟨by simpa [idxs] using hz, o3, hl⟩
          · simp only [put, hfg] at hput
            cases hpp : put p t1.1 t1.2 ⟨t.1, y⟩ with
            | none => rw [hpp] at hput; simp at hput
            | some y1 =>
              rw [hpp] at hput
              simp only at hput
              obtain ⟨cs1, On1, hr1, ho1, hat1, hsame1⟩ := hw w1 F1 y csn1 O1 y1 hpp he
                (fun c hc' => hc c (by
                  rcases hc' with hc' | ⟨o2, hc'⟩
                  · exact .inl (List.mem_append_left _ hc')
                  · simp only [Option.map_eq_some_iff, Prod.mk.injEq, Prod.exists] at hc'
                    obtain ⟨b2, o3, hl, rfl, _⟩ := hc'
                    exact .inr ⟨o3, hl⟩))
                (by simpa [idxs] using hrn)
              obtain ⟨On, hrn', hon⟩ := hwf w1 F1 y1 cs1 On1 xn hput he
                (fun c hcr => (hc c (.inl (List.mem_append_right _ hcr))).same fun o2 ho2 => by
                  rcases hlb c o2 ho2 with hb | ⟨_, o3, hb⟩
                  · exact (List.nodup_append.1 hnd2).2.2 c (hOr1 c hb) c hcr rfl
                  · simp only [Option.map_eq_some_iff, Prod.mk.injEq, Prod.exists] at hb
                    obtain ⟨b2, o4, hl, rfl, _⟩ := hb
                    exact hlO _ o4 hl (hof.mem_iff.2 (List.mem_append_right _ hcr)))
                hr1
              refine ⟨pre ++ (cs1 ++ post), On, hrn', ?_, fun b1 o1 hb1 => ?_, fun hz => ?_⟩
              · rw [← List.append_assoc]
                exact hon.trans (ho1.append_right Or)
              · have hat0 := hlat b1 o1 hb1
                rw [At.append, At.append] at hat0
                have hch := hc b1 (.inr ⟨o1, hb1⟩)
                have hl1 : csn1.length = t.1.sz := hrn.length
                have hc1 : cs1.length = t1.1.sz := hr1.length
                have hin : ∀ o2, l' = some (b1, o2) → o1 + pre.length ≤ o2 ∧ o2 + csn1.length ≤ o1 + pre.length + t1.1.sz := by
                  intro o2 ho2
                  rcases hlb b1 o2 ho2 with hb | ⟨hz, _⟩
                  · exact absurd (hof.mem_iff.2 (List.mem_append_left _ (hOr1 _ hb))) (hlO b1 o1 hb1)
                  · rw [hb1] at hp
                    obtain ⟨o3, h1, h2, h3⟩ := place_in p hp hz hcl
                    rw [ho2] at h1
                    simp only [Option.some.injEq, Prod.mk.injEq, true_and] at h1
                    subst h1
                    simp only at h2 h3
                    omega
                rw [At.append, At.append]
                refine ⟨fun k hk => ?_, ?_, fun k hk => ?_⟩
                · rw [hch.out _ fun o2 ho2 => .inl (by have := hin o2 ho2; omega)]
                  exact hat0.1 k hk
                · have := hat1 b1 (o1 + fldOff a f) (by rw [hb1]; rfl)
                  rwa [hpl]
                · rw [hch.out _ fun o2 ho2 => .inr (by have := hin o2 ho2; omega)]
                  have := hat0.2.2 k hk
                  rwa [hc1, ← hcl]
              · rw [hsame1 (by simpa [idxs] using hz)]
      | _ => exact hp.elim
end Go.Tom
