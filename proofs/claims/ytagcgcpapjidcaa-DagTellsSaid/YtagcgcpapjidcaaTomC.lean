/- The program's types as Ty; zero values; what a slot holds (S); the frame (Inv). -/
import Derived.Test.YtagcgcpapjidcaaTomB
set_option linter.unusedVariables false
set_option linter.unusedSimpArgs false
namespace Go.Tom
open Go

def Ty.isSt : Ty → Bool
  | .st _ => true
  | _ => false

def zeroCells : Ty → List Value
  | .int k => [.int k 0]
  | .bool => [.bool false]
  | .str => [.string ByteArray.empty]
  | .slice _ => [.slice none 0 0]
  | .prod a b => zeroCells a ++ zeroCells b
  | .st a => zeroCells a
  | .cptr _ => [.pointer none]
  | .fn _ _ => [.nilFunc]

/-- Strikes a zero value's cells off the head of a list. -/
def zstrike : Ty → List Value → Option (List Value)
  | .int k, .int k' n :: r => if k' = k ∧ n = 0 then some r else none
  | .bool, .bool b :: r => if b = false then some r else none
  | .str, .string s :: r => if s.data = #[] then some r else none
  | .slice _, .slice none 0 0 :: r => some r
  | .prod a b, cs => (zstrike a cs).bind (zstrike b)
  | .st a, cs => zstrike a cs
  | _, _ => none

theorem zstrike_eq : ∀ {τ : Ty} {cs r : List Value}, zstrike τ cs = some r → cs = zeroCells τ ++ r := by
  intro τ
  induction τ with
  | int k =>
    intro cs r h
    match cs with
    | .int k' n :: cs => simp only [zstrike] at h; split at h <;> simp_all [zeroCells]
    | [] | .bool _ :: _ | .float _ _ :: _ | .complex _ _ _ :: _ | .string _ :: _ | .pointer _ :: _ | .slice _ _ _ :: _ | .map _ :: _ | .chan _ :: _ | .func _ _ _ :: _ | .nilFunc :: _ | .iface _ _ :: _ | .nilIface :: _ | .agg _ :: _ | .tuple _ :: _ => simp [zstrike] at h
  | bool =>
    intro cs r h
    match cs with
    | .bool b :: cs => simp only [zstrike] at h; split at h <;> simp_all [zeroCells]
    | [] | .int _ _ :: _ | .float _ _ :: _ | .complex _ _ _ :: _ | .string _ :: _ | .pointer _ :: _ | .slice _ _ _ :: _ | .map _ :: _ | .chan _ :: _ | .func _ _ _ :: _ | .nilFunc :: _ | .iface _ _ :: _ | .nilIface :: _ | .agg _ :: _ | .tuple _ :: _ => simp [zstrike] at h
  | str =>
    intro cs r h
    match cs with
    | .string s :: cs =>
      simp only [zstrike] at h
      split at h
      · rename_i hs
        obtain rfl := Option.some.inj h
        obtain ⟨d⟩ := s
        simp only at hs
        subst hs
        rfl
      · simp at h
    | [] | .int _ _ :: _ | .bool _ :: _ | .float _ _ :: _ | .complex _ _ _ :: _ | .pointer _ :: _ | .slice _ _ _ :: _ | .map _ :: _ | .chan _ :: _ | .func _ _ _ :: _ | .nilFunc :: _ | .iface _ _ :: _ | .nilIface :: _ | .agg _ :: _ | .tuple _ :: _ => simp [zstrike] at h
  | slice e _ =>
    intro cs r h
    match cs with
    | .slice none 0 0 :: cs => simp [zstrike] at h; simp [zeroCells, h]
    | .slice (some _) _ _ :: _ | .slice none (_ + 1) _ :: _ | .slice none 0 (_ + 1) :: _ => simp [zstrike] at h
    | [] | .int _ _ :: _ | .bool _ :: _ | .float _ _ :: _ | .complex _ _ _ :: _ | .string _ :: _ | .pointer _ :: _ | .map _ :: _ | .chan _ :: _ | .func _ _ _ :: _ | .nilFunc :: _ | .iface _ _ :: _ | .nilIface :: _ | .agg _ :: _ | .tuple _ :: _ => simp [zstrike] at h
  | prod a b iha ihb =>
    intro cs r h
    simp only [zstrike, Option.bind_eq_some_iff] at h
    obtain ⟨r1, h1, h2⟩ := h
    rw [iha h1, ihb h2, zeroCells, List.append_assoc]
  | st a ih => intro cs r h; exact ih h
  | cptr a _ => intro cs r h; simp [zstrike] at h
  | fn a r _ _ => intro cs r h; simp [zstrike] at h

theorem Rep.zero {P : Program} : ∀ {τ : Ty} {n : Nat} {w : World} {F : Nat → Prop}, τ.data = true → Rep P τ n w F τ.zero (zeroCells τ) [] := by
  intro τ
  induction τ with
  | prod a b iha ihb =>
    intro n w F h
    simp [Ty.data] at h
    have ha := iha (n := n) (w := w) (F := F) h.1
    have hb := ihb (n := n) (w := w) (F := F) h.2
    exact ⟨zeroCells a, zeroCells b, [], [], rfl, rfl, ha.length, hb.length, ha, hb⟩
  | st a ih => intro n w F h; exact ih h
  | int k => intro n w F _; exact ⟨rfl, rfl⟩
  | bool => intro n w F _; exact ⟨rfl, rfl⟩
  | str => intro n w F _; exact ⟨rfl, rfl⟩
  | slice e ih =>
    intro n w F _
    refine ⟨none, 0, [], [], rfl, Nat.le_refl _, rfl, rfl, fun i h => absurd h (by simp [Ty.zero]), ?_⟩
    by_cases hn : n = 0
    · exact .inl ⟨hn, rfl, .inl rfl⟩
    · exact .inr (.inl ⟨by omega, rfl, rfl⟩)
  | cptr a _ => intro n w F h; simp [Ty.data] at h
  | fn a r _ _ => intro n w F h; simp [Ty.data] at h

theorem Ty.sz_pos : ∀ (τ : Ty), 0 < τ.sz
  | .int _ | .bool | .str | .slice _ | .cptr _ | .fn _ _ => by simp [Ty.sz]
  | .prod a b => by have := Ty.sz_pos a; simp only [Ty.sz]; omega
  | .st a => by simpa [Ty.sz] using Ty.sz_pos a

/-- What the table of types says of a type. -/
def infoB (P : Program) (T : TypeId) (τ : Ty) : Bool :=
  match P.info? T with
  | some i => i.size == τ.sz && decide (i.bytes ≤ 65536) && (!τ.data || (match i.zero with
    | some z => (match τ, z with
      | .st _, .agg cs => (zstrike τ cs.toList).any (·.isEmpty)
      | .st _, _ => false
      | _, .agg _ => false
      | _, z => (zstrike τ [z]).any (·.isEmpty))
    | none => false))
  | none => false

def leafB (t : TypeId → Bool) (fs : Array Field) (i off : Nat) : Bool :=
  match fs[i]? with
  | some f => f.offset == off && t f.type && f.name != "_" && fs.size == i + 1
  | none => false

/-- A type of the program is a Ty. -/
def okB (P : Program) : Ty → (TypeId → Bool) × (Array Field → Nat → Nat → Bool)
  | .int k => let t := fun T => infoB P T (.int k) && (match P.underlying T with | some (.int k') => k' == k | _ => false); (t, leafB t)
  | .bool => let t := fun T => infoB P T .bool && (match P.underlying T with | some .bool => true | _ => false); (t, leafB t)
  | .str => let t := fun T => infoB P T .str && (match P.underlying T with | some .string => true | _ => false); (t, leafB t)
  | .slice e => let t := fun T => infoB P T (.slice e) && (match P.underlying T with | some (.slice E) => (okB P e).1 E | _ => false); (t, leafB t)
  | .cptr a => let t := fun T => infoB P T (.cptr a) && (match P.underlying T with | some (.pointer E) => (okB P a).1 E | _ => false); (t, leafB t)
  | .fn a r => let t := fun T => infoB P T (.fn a r) && (match P.underlying T with | some (.func _ _ _) => true | _ => false); (t, leafB t)
  | .prod a b => (fun _ => false, fun fs i off => (match fs[i]? with | some f => f.offset == off && (okB P a).1 f.type && f.name != "_" | none => false) && (okB P b).2 fs (i + 1) (off + a.sz))
  | .st a => let t := fun T => infoB P T (.st a) && (match P.underlying T with | some (.struct fs) => (okB P a).2 fs 0 0 | _ => false) && !P.stoodInHeld T && !P.eqGuardType P.depth T; (t, leafB t)

abbrev TyOk (P : Program) (T : TypeId) (τ : Ty) : Prop := (okB P τ).1 T = true

/-- A table of the types that a proof names. -/
abbrev Tys := List (TypeId × Ty)
def tyAt : Tys → TypeId → Option Ty
  | [], _ => none
  | (t, τ) :: r, T => if Nat.beq T t then some τ else tyAt r T
def Tys.ok (P : Program) (tys : Tys) : Bool := tys.all fun q => (okB P q.2).1 q.1

theorem tyAt_ok {P : Program} : ∀ {tys : Tys} {T : TypeId} {τ : Ty}, tys.ok P = true → tyAt tys T = some τ → TyOk P T τ := by
  intro tys
  induction tys with
  | nil => intro T τ _ h; simp [tyAt] at h
  | cons q r ih =>
    obtain ⟨t, σ⟩ := q
    intro T τ hok h
    simp only [Tys.ok, List.all_cons, Bool.and_eq_true] at hok
    simp only [tyAt] at h
    split at h
    · rename_i he
      obtain rfl := Nat.eq_of_beq_eq_true he
      obtain rfl := Option.some.inj h
      exact hok.1
    · exact ih hok.2 h

theorem infoB_spec {P : Program} {T : TypeId} {τ : Ty} (h : infoB P T τ = true) : ∃ i, P.info? T = some i ∧ i.size = τ.sz ∧ i.bytes ≤ 65536 ∧
    (τ.data = true → ∃ z, i.zero = some z ∧ VS τ z (zeroCells τ)) := by
  unfold infoB at h
  cases hi : P.info? T with
  | none => rw [hi] at h; simp at h
  | some i =>
    rw [hi] at h
    simp only [Bool.and_eq_true, beq_iff_eq, decide_eq_true_eq, Bool.or_eq_true, Bool.not_eq_true'] at h
    obtain ⟨⟨h1, h2⟩, h3⟩ := h
    refine ⟨i, rfl, h1, h2, fun hd => ?_⟩
    rcases h3 with h3 | h3
    · rw [hd] at h3; simp at h3
    · cases hz : i.zero with
      | none => rw [hz] at h3; simp at h3
      | some z =>
        rw [hz] at h3
        refine ⟨z, rfl, ?_⟩
        have key : ∀ cs, (zstrike τ cs).any (·.isEmpty) = true → cs = zeroCells τ := by
          intro cs hc
          cases hs : zstrike τ cs with
          | none => rw [hs] at hc; simp at hc
          | some r =>
            rw [hs] at hc
            have := zstrike_eq hs
            simp at hc
            subst hc
            simpa using this
        cases τ with
        | st a =>
          cases z <;> simp only [Bool.false_eq_true] at h3
          rename_i cs
          have := key _ h3
          show Value.agg cs = .agg (zeroCells (.st a)).toArray
          rw [← this]
        | _ =>
          cases z <;> simp only [Bool.false_eq_true] at h3
          all_goals exact (key _ h3).symm

theorem TyOk.info {P : Program} {T : TypeId} {τ : Ty} (h : TyOk P T τ) : ∃ i, P.info? T = some i ∧ i.size = τ.sz ∧ i.bytes ≤ 65536 ∧
    (τ.data = true → ∃ z, i.zero = some z ∧ VS τ z (zeroCells τ)) := by
  cases τ <;> simp only [TyOk, okB, Bool.and_eq_true, Bool.false_eq_true] at h
  case st a => exact infoB_spec h.1.1.1
  all_goals exact infoB_spec h.1

theorem TyOk.int {P : Program} {T : TypeId} {k : IntKind} (h : TyOk P T (.int k)) : P.underlying T = some (.int k) := by
  simp only [TyOk, okB, Bool.and_eq_true] at h
  cases hu : P.underlying T with
  | none => rw [hu] at h; simp at h
  | some d => rw [hu] at h; cases d <;> simp at h; rw [h.2]
theorem TyOk.bool {P : Program} {T : TypeId} (h : TyOk P T .bool) : P.underlying T = some .bool := by
  simp only [TyOk, okB, Bool.and_eq_true] at h
  cases hu : P.underlying T with
  | none => rw [hu] at h; simp at h
  | some d => rw [hu] at h; cases d <;> simp at h; rfl
theorem TyOk.str {P : Program} {T : TypeId} (h : TyOk P T .str) : P.underlying T = some .string := by
  simp only [TyOk, okB, Bool.and_eq_true] at h
  cases hu : P.underlying T with
  | none => rw [hu] at h; simp at h
  | some d => rw [hu] at h; cases d <;> simp at h; rfl
theorem TyOk.slice {P : Program} {T : TypeId} {e : Ty} (h : TyOk P T (.slice e)) : ∃ E, P.underlying T = some (.slice E) ∧ TyOk P E e := by
  simp only [TyOk, okB, Bool.and_eq_true] at h
  cases hu : P.underlying T with
  | none => rw [hu] at h; simp at h
  | some d => rw [hu] at h; cases d <;> simp at h; exact ⟨_, rfl, h.2⟩
theorem TyOk.st {P : Program} {T : TypeId} {a : Ty} (h : TyOk P T (.st a)) : ∃ fs, P.underlying T = some (.struct fs) ∧ (okB P a).2 fs 0 0 = true ∧ P.stoodInHeld T = false ∧ P.eqGuardType P.depth T = false := by
  simp only [TyOk, okB, Bool.and_eq_true] at h
  cases hu : P.underlying T with
  | none => rw [hu] at h; simp at h
  | some d => rw [hu] at h; cases d <;> simp at h; exact ⟨_, rfl, h.1.1.2, h.1.2, h.2⟩
theorem TyOk.fn {P : Program} {T : TypeId} {a r : Ty} (h : TyOk P T (.fn a r)) : ∃ x y z, P.underlying T = some (.func x y z) := by
  simp only [TyOk, okB, Bool.and_eq_true] at h
  cases hu : P.underlying T with
  | none => rw [hu] at h; simp at h
  | some d => rw [hu] at h; cases d <;> simp at h; exact ⟨_, _, _, rfl⟩
theorem TyOk.cptr {P : Program} {T : TypeId} {a : Ty} (h : TyOk P T (.cptr a)) : ∃ x, P.underlying T = some (.pointer x) := by
  simp only [TyOk, okB, Bool.and_eq_true] at h
  cases hu : P.underlying T with
  | none => rw [hu] at h; simp at h
  | some d => rw [hu] at h; cases d <;> simp at h; exact ⟨_, rfl⟩

def Ty.isProd : Ty → Bool
  | .prod _ _ => true
  | _ => false

theorem okB_leaf {P : Program} : ∀ (τ : Ty), τ.isProd = false → (okB P τ).2 = leafB (okB P τ).1
  | .prod _ _, h => by simp [Ty.isProd] at h
  | .int _, _ | .bool, _ | .str, _ | .slice _, _ | .st _, _ | .cptr _, _ | .fn _ _, _ => rfl

/-- A struct's fields, as the table has them. -/
theorem okB_fld {P : Program} : ∀ {a : Ty} {fs : Array Field} {i off : Nat} {f : Nat} {a1 : Ty}, (okB P a).2 fs i off = true → fldTy a f = some a1 →
    ∃ d, fs[i + f]? = some d ∧ d.offset = off + fldOff a f ∧ TyOk P d.type a1 ∧ d.name ≠ "_" := by
  intro a
  have leaf : ∀ {t : TypeId → Bool} {fs : Array Field} {i off : Nat}, leafB t fs i off = true → ∃ d, fs[i]? = some d ∧ d.offset = off ∧ t d.type = true ∧ d.name ≠ "_" := by
    intro t fs i off h
    unfold leafB at h
    cases hf : fs[i]? with
    | none => rw [hf] at h; simp at h
    | some d => rw [hf] at h; simp at h; exact ⟨d, rfl, h.1.1.1, h.1.1.2, h.1.2⟩
  induction a with
  | prod a b iha ihb =>
    intro fs i off f a1 h hf
    simp only [okB, Bool.and_eq_true] at h
    cases f with
    | zero =>
      simp only [fldTy, Option.some.injEq] at hf
      subst hf
      cases hfi : fs[i]? with
      | none => rw [hfi] at h; simp at h
      | some d => rw [hfi] at h; simp at h; exact ⟨d, by simp [hfi], h.1.1.1, h.1.1.2, h.1.2⟩
    | succ f =>
      obtain ⟨d, h1, h2, h3, h4⟩ := ihb h.2 hf
      exact ⟨d, by rw [← h1]; congr 1; omega, by rw [h2, fldOff]; omega, h3, h4⟩
  | _ =>
    intro fs i off f a1 h hf
    cases f <;> simp only [fldTy, Option.some.injEq, reduceCtorEq] at hf
    rw [okB_leaf _ rfl] at h
    obtain ⟨d, h1, h2, h3, h4⟩ := leaf h
    subst hf
    exact ⟨d, h1, by simpa [fldOff] using h2, h3, h4⟩

end Go.Tom
