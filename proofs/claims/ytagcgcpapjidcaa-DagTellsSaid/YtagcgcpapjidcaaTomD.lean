/- What a slot holds (S), and how a region's operations turn it: a symbolic evaluation that Lean carries out by rfl. -/
import Derived.Test.YtagcgcpapjidcaaTomC
set_option linter.unusedVariables false
set_option linter.unusedSimpArgs false
namespace Go.Tom
open Go

structure Res where
  n : Nat
  τ : Ty
  x : τ.den

inductive S where
  | dead
  /-- a value; n: how deep it is owned (0: it lies in kept memory, or is flat) -/
  | v (n : Nat) (τ : Ty) (x : τ.den)
  /-- the address of a variable of the frame's own, and what it holds -/
  | box (n : Nat) (τ : Ty) (x : τ.den)
  /-- an address inside slot V -/
  | ref (V : Nat) (p : List Step)
  /-- a copy of what lies inside slot V -/
  | bor (V : Nat) (p : List Step)
  /-- part i of the tuple in slot V -/
  | ext (V i : Nat)
  /-- a closure over variables of the frame -/
  | clo (f : FuncId) (caps : List Nat)
  | tup (rs : List (Option Res))
  /-- the nil slice, of whatever type -/
  | nil
  /-- what slot V holds behind 'x[l:h]' of its slice at p -/
  | bsl (V : Nat) (p : List Step) (l h : Int)
  /-- a variable (bx) or a value with a hole at p -/
  | hol (bx : Bool) (n : Nat) (τ : Ty) (x : τ.den) (p : List Step)
  /-- the address of the hole in slot V, if these hold -/
  | hrf (V : Nat) (l : List Prop)
  /-- of an operation under a guard -/
  | cnd (g : Nat × Bool) (s : S)

def roots : S → List Nat
  | .ref V _ | .bor V _ | .ext V _ | .bsl V _ _ _ | .hrf V _ => [V]
  | .clo _ caps => caps
  | .cnd _ s => roots s
  | _ => []

/-- What a call is told: its results, and how deep each is owned from then on; the Lean function that a closure among its arguments is. -/
inductive Sup where
  | res (rs : List (Nat × Res))
  | fn (a r : Ty) (g : a.den → Option r.den)
  /-- what is made is kept at once -/
  | frz

/-- An operand, and what its roots hold. -/
structure RS where
  t : Option Nat
  s : S
  rt : List S

def constS : Value → S
  | .int k n => .v 0 (.int k) n
  | .bool b => .v 0 .bool b
  | .string s => .v 0 .str s
  | .slice none 0 0 => .nil
  | _ => .dead

def gIn : List (Nat × Bool) → Nat × Bool → Bool
  | [], _ => false
  | (j, b) :: r, g => (Nat.beq j g.1 && (b == g.2)) || gIn r g

/-- An operand; ok: the guards that are known to hold. -/
def opd (ok : List (Nat × Bool)) (e : Nat → S) : Operand → RS
  | .tmp t => match e t with
    | .cnd g s => if gIn ok g then ⟨none, s, (roots s).map e⟩ else ⟨none, .dead, []⟩
    | s => ⟨some t, s, (roots s).map e⟩
  | .const c => ⟨none, constS c, []⟩
  | .func f => ⟨none, .clo f [], []⟩
  | _ => ⟨none, .dead, []⟩

/-- The value that an operand is. -/
def rdv : RS → Option TV
  | ⟨_, .v _ τ x, _⟩ => some ⟨τ, x⟩
  | ⟨_, .bor _ p, [.v _ τ x]⟩ => get p τ x
  | ⟨_, .bor _ p, [.box _ τ x]⟩ => get p τ x
  | ⟨_, .ext _ i, [.tup rs]⟩ => match rs[i]? with
    | some (some r) => some ⟨r.τ, r.x⟩
    | _ => none
  | _ => none

/-- A value that is flat, or lies in kept memory. -/
def rdk : RS → Option TV
  | ⟨_, .v n τ x, _⟩ => if τ.flat || Nat.beq n 0 then some ⟨τ, x⟩ else none
  | ⟨_, .ext _ i, [.tup rs]⟩ => match rs[i]? with
    | some (some r) => if r.τ.flat || Nat.beq r.n 0 then some ⟨r.τ, r.x⟩ else none
    | _ => none
  | _ => none

def rdInt (r : RS) : Option (IntKind × Int) :=
  match rdk r with
  | some ⟨.int k, x⟩ => some (k, x)
  | _ => none

def rdBool (r : RS) : Option Bool :=
  match rdk r with
  | some ⟨.bool, x⟩ => some x
  | _ => none

/-- How deep its structs lie in each other. -/
def Ty.nest : Ty → Nat
  | .prod a b => max a.nest b.nest
  | .st a => a.nest + 1
  | _ => 0

/-- Equality of flat values. -/
def Ty.beq : (τ : Ty) → τ.den → τ.den → Bool
  | .int _, x, y => x == y
  | .bool, x, y => x == y
  | .str, x, y => x == y
  | .prod a b, x, y => a.beq x.1 y.1 && b.beq x.2 y.2
  | .st a, x, y => a.beq x y
  | _, _, _ => false

abbrev QR := Option (S × List Prop × List Sup)

def qv (τ : Ty) (x : τ.den) (obs : List Prop) (sup : List Sup) : QR := some (.v 0 τ x, obs, sup)

def binInt (op : BinOp) (k : IntKind) (a b : Int) (sup : List Sup) : QR :=
  match op with
  | .add => qv (.int k) (k.wrap (a + b)) [] sup
  | .sub => qv (.int k) (k.wrap (a - b)) [] sup
  | .mul => qv (.int k) (k.wrap (a * b)) [] sup
  | .quo => qv (.int k) (k.wrap (a.tdiv b)) [b ≠ 0] sup
  | .rem => qv (.int k) (a.tmod b) [b ≠ 0] sup
  | .and => qv (.int k) (k.wrap (BitVec.ofInt k.bits a &&& BitVec.ofInt k.bits b).toNat) [] sup
  | .or => qv (.int k) (k.wrap (BitVec.ofInt k.bits a ||| BitVec.ofInt k.bits b).toNat) [] sup
  | .xor => qv (.int k) (k.wrap (BitVec.ofInt k.bits a ^^^ BitVec.ofInt k.bits b).toNat) [] sup
  | .andNot => qv (.int k) (k.wrap (BitVec.ofInt k.bits a &&& ~~~ BitVec.ofInt k.bits b).toNat) [] sup
  | .eql => qv .bool (a == b) [] sup
  | .neq => qv .bool (a != b) [] sup
  | .lss => qv .bool (decide (a < b)) [] sup
  | .leq => qv .bool (decide (a ≤ b)) [] sup
  | .gtr => qv .bool (decide (a > b)) [] sup
  | .geq => qv .bool (decide (a ≥ b)) [] sup
  | _ => none

def shf (op : BinOp) (k : IntKind) (a b : Int) (sup : List Sup) : QR :=
  match op with
  | .shl => qv (.int k) (k.wrap (a * 2 ^ (min b.toNat k.bits))) [0 ≤ b] sup
  | .shr => qv (.int k) (a.fdiv (2 ^ (min b.toNat k.bits))) [0 ≤ b] sup
  | _ => none

def isShift : BinOp → Bool
  | .shl | .shr => true
  | _ => false

def evBin (tys : Tys) (op : BinOp) (T : TypeId) (x y : RS) (sup : List Sup) : QR :=
  match rdk x, rdk y with
  | some ⟨.int k, a⟩, some ⟨.int k', b⟩ => if isShift op then shf op k a b sup else if k = k' then binInt op k a b sup else none
  | some ⟨.bool, a⟩, some ⟨.bool, b⟩ => match op, tyAt tys T with
    | .eql, some .bool => qv .bool (a == b) [] sup
    | .neq, some .bool => qv .bool (a != b) [] sup
    | _, _ => none
  | some ⟨.st τ, a⟩, some ⟨.st τ', b⟩ => if h : τ' = τ then
      if tyAt tys T = some (.st τ) ∧ τ.flat = true ∧ Nat.ble τ.nest 9 = true then match op with
        | .eql => qv .bool (τ.beq a (h ▸ b)) [] sup
        | .neq => qv .bool (!(τ.beq a (h ▸ b))) [] sup
        | _ => none
      else none
    else none
  | some ⟨.str, a⟩, some ⟨.str, b⟩ => match op with
    | .eql => qv .bool (a.toList == b.toList) [] sup
    | .neq => qv .bool (!(a.toList == b.toList)) [] sup
    | _ => none
  | _, _ => none

def evUn (op : UnOp) (x : RS) (sup : List Sup) : QR :=
  match op, rdk x with
  | .not, some ⟨.bool, b⟩ => qv .bool (!b) [] sup
  | .neg, some ⟨.int k, n⟩ => qv (.int k) (k.wrap (0 - n)) [] sup
  | .xor, some ⟨.int k, n⟩ => qv (.int k) (k.wrap (BitVec.ofInt k.bits (if k.signed then -1 else k.max) ^^^ BitVec.ofInt k.bits n).toNat) [] sup
  | _, _ => none

/-- Where an address lies, as it is said of slot V: the value there and its depth. -/
def rootGet : S → List Step → Option (Nat × TV)
  | .v n τ x, p => if Nat.ble (idxs p) n then (get p τ x).map fun t => (n - idxs p, t) else none
  | .box n τ x, p => if Nat.ble (idxs p) n then (get p τ x).map fun t => (n - idxs p, t) else none
  | _, _ => none

/-- What is read at a place: a value, or a copy that stays tied to the place. -/
def atPlace (V : Nat) (p : List Step) (n : Nat) (t : TV) (sup : List Sup) : QR :=
  if t.1.flat || Nat.beq n 0 then some (.v 0 t.1 t.2, [], sup) else some (.bor V p, [], sup)

def evLoad (tys : Tys) (T : TypeId) (a : RS) (sup : List Sup) : QR :=
  match a with
  | ⟨some V, .box n τ x, _⟩ => if tyAt tys T = some τ then atPlace V [] n ⟨τ, x⟩ sup else none
  | ⟨_, .ref V p, [r]⟩ => match rootGet r p with
    | some (n, t) => if tyAt tys T = some t.1 then atPlace V p n t sup else none
    | none => none
  | ⟨_, .v _ (.cptr τ) x, _⟩ => if tyAt tys T = some τ then some (.v 0 τ x, [], sup) else none
  | _ => none

def evFieldAddr (tys : Tys) (T : TypeId) (f : Nat) (a : RS) (sup : List Sup) : QR :=
  match a with
  | ⟨some V, .box _ (.st b) _, _⟩ => if tyAt tys T = some (.st b) ∧ (fldTy b f).isSome = true then some (.ref V [.fld f], [], sup) else none
  | ⟨_, .ref V p, [r]⟩ => match rootGet r p with
    | some (_, ⟨.st b, _⟩) => if tyAt tys T = some (.st b) ∧ (fldTy b f).isSome = true then some (.ref V (p ++ [.fld f]), [], sup) else none
    | _ => none
  | ⟨_, .v _ (.cptr (.st b)) x, _⟩ => if tyAt tys T = some (.st b) then match fldGet b x f with
      | some t => some (.v 0 (.cptr t.1) t.2, [], sup)
      | none => none
    else none
  | _ => none

def evField (tys : Tys) (T : TypeId) (f : Nat) (a : RS) (sup : List Sup) : QR :=
  match a with
  | ⟨some V, .v n (.st b) x, _⟩ => if tyAt tys T = some (.st b) then match fldGet b x f with
      | some t => atPlace V [.fld f] n t sup
      | none => none
    else none
  | ⟨none, .v 0 (.st b) x, _⟩ => if tyAt tys T = some (.st b) then match fldGet b x f with
      | some t => some (.v 0 t.1 t.2, [], sup)
      | none => none
    else none
  | ⟨_, .bor V p, [r]⟩ => match rootGet r p with
    | some (n, ⟨.st b, x⟩) => if tyAt tys T = some (.st b) then match fldGet b x f with
        | some t => atPlace V (p ++ [.fld f]) n t sup
        | none => none
      else none
    | _ => none
  | _ => none

def evIndexAddr (tys : Tys) (T : TypeId) (a i : RS) (sup : List Sup) : QR :=
  match rdInt i with
  | some (_, i) => match a with
    | ⟨some V, .v n (.slice e) xs, _⟩ => if tyAt tys T = some (.slice e) then
        (if Nat.beq n 0 then some (.v 0 (.cptr e) (rd e.zero xs i), [0 ≤ i ∧ i < (xs.length : Int)], sup)
        else some (.ref V [.idx i], [0 ≤ i ∧ i < (xs.length : Int)], sup)) else none
    | ⟨none, .v 0 (.slice e) xs, _⟩ => if tyAt tys T = some (.slice e) then some (.v 0 (.cptr e) (rd e.zero xs i), [0 ≤ i ∧ i < (xs.length : Int)], sup) else none
    | ⟨_, .bor V [], [.hol false _ (.slice e) _ [.idx j]]⟩ => if tyAt tys T = some (.slice e) then some (.hrf V [], [i = j], sup) else none
    | ⟨_, .bor V p, [r]⟩ => match rootGet r p with
      | some (n + 1, ⟨.slice e, xs⟩) => if tyAt tys T = some (.slice e) then some (.ref V (p ++ [.idx i]), [0 ≤ i ∧ i < (xs.length : Int)], sup) else none
      | _ => none
    | _ => none
  | none => none

/-- A byte of a text. -/
def bt (s : ByteArray) (i : Int) : Int := ((s.data.getD i.toNat 0).toNat : Int)

def evIndex (tys : Tys) (T : TypeId) (a i : RS) (sup : List Sup) : QR :=
  match rdInt i, rdk a with
  | some (_, i), some ⟨.str, s⟩ => if tyAt tys T = some .str then qv (.int .u8) (bt s i) [0 ≤ i ∧ i < (s.size : Int)] sup else none
  | _, _ => none

def evConvert (tys : Tys) (src dst : TypeId) (x : RS) (sup : List Sup) : QR :=
  match rdk x, tyAt tys src, tyAt tys dst with
  | some ⟨.int k, n⟩, some (.int k0), some (.int k') => qv (.int k') (k'.wrap n) [] sup
  | some ⟨.str, s⟩, some .str, some .str => qv .str s [] sup
  | _, _, _ => none

def lim : Int := 4294967296
def limA : Int := 2147483648

def evMakeSlice (tys : Tys) (T : TypeId) (l c : RS) (sup : List Sup) : QR :=
  match tyAt tys T, rdInt l, rdInt c with
  | some (.slice e), some (.i64, l), some (.i64, c) => if e.data then some (.v 9 (.slice e) (List.replicate l.toNat e.zero), [0 ≤ l ∧ l ≤ c ∧ c ≤ lim], sup) else none
  | _, _, _ => none

/-- Part of a list. -/
def sl {α : Type} (xs : List α) (l h : Int) : List α := (xs.take h.toNat).drop l.toNat

def boundOr (d : Int) : Option RS → Option Int
  | none => some d
  | some r => match rdInt r with
    | some (_, i) => some i
    | none => none

def evSlice (tys : Tys) (T : TypeId) (x : RS) (lo hi mx : Option RS) (sup : List Sup) : QR :=
  match tyAt tys T, x, mx with
  | some (.slice e), r, some m => match rdv r, boundOr 0 lo, hi.bind fun h => boundOr 0 (some h), rdInt m with
    | some ⟨.slice _, xs⟩, some 0, some 0, some (_, 0) => some (.v 9 (.slice e) [], [], sup)
    | _, _, _, _ => none
  | some (.slice e), ⟨_, .v 0 (.slice e') xs, _⟩, none => if e' = e then match boundOr 0 lo, boundOr (xs.length : Int) hi with
      | some l, some h => some (.v 0 (.slice e') (sl xs l h), [0 ≤ l ∧ l ≤ h ∧ h ≤ (xs.length : Int)], sup)
      | _, _ => none
    else none
  | some (.slice e), ⟨_, .bor V p, [r]⟩, none => match rootGet r p with
    | some (n + 1, ⟨.slice e', xs⟩) => if e' = e then match boundOr 0 lo, boundOr (xs.length : Int) hi with
        | some l, some h => some (.bsl V p l h, [0 ≤ l ∧ l ≤ h ∧ h ≤ (xs.length : Int)], sup)
        | _, _ => none
      else none
    | _ => none
  | _, _, _ => none

def evLen (tys : Tys) (T : TypeId) (r : RS) (sup : List Sup) : QR :=
  match tyAt tys T, r with
  | some (.slice _), ⟨_, .nil, _⟩ => qv (.int .i64) 0 [] sup
  | some (.slice _), ⟨_, .bsl _ _ l h, _⟩ => qv (.int .i64) (h - l) [] sup
  | some (.slice _), r => match rdv r with
    | some ⟨.slice e, xs⟩ => qv (.int .i64) (xs.length : Int) [] sup
    | _ => none
  | some .str, r => match rdk r with
    | some ⟨.str, s⟩ => qv (.int .i64) (s.size : Int) [] sup
    | _ => none
  | _, _ => none

def mm (isMax : Bool) : IntKind → Int → List RS → Option Int
  | _, x, [] => some x
  | k, x, r :: rs => match rdInt r with
    | some (k', y) => if k' = k then mm isMax k (if isMax then (if y > x then y else x) else (if y < x then y else x)) rs else none
    | none => none

def evMM (isMax : Bool) : List RS → List Sup → QR
  | r :: rs, sup => match rdInt r with
    | some (k, x) => match mm isMax k x rs with
      | some z => qv (.int k) z [] sup
      | none => none
    | none => none
  | [], _ => none

/-- A part of a struct literal. -/
def evPart (τ : Ty) (i : Nat) (ps : List (Nat × RS)) : Option τ.den :=
  match ps.find? fun q => Nat.beq q.1 i with
  | none => if τ.data then some τ.zero else none
  | some q => match q.2 with
    | ⟨_, .nil, _⟩ => match τ with
      | .slice _ => some []
      | _ => none
    | r => match rdk r with
      | some t => cast? τ t
      | none => none

/-- The parts of a struct, one for each field in order. -/
def evBuildSt : (a : Ty) → Nat → List (Nat × RS) → Option a.den
  | .prod a b, i, ps => match evPart a i ps, evBuildSt b (i + 1) ps with
    | some x, some y => some (x, y)
    | _, _ => none
  | .int k, i, ps => evPart (.int k) i ps
  | .bool, i, ps => evPart .bool i ps
  | .str, i, ps => evPart .str i ps
  | .slice e, i, ps => evPart (.slice e) i ps
  | .st a, i, ps => evPart (.st a) i ps
  | .cptr a, i, ps => evPart (.cptr a) i ps
  | .fn a r, i, ps => evPart (.fn a r) i ps

def evBuildSlice (e : Ty) : Nat → List (Nat × RS) → Option (List e.den)
  | _, [] => some []
  | i, (j, r) :: ps => if Nat.beq i j then match rdk r with
      | some t => match cast? e t, evBuildSlice e (i + 1) ps with
        | some x, some xs => some (x :: xs)
        | _, _ => none
      | none => none
    else none

/-- The operands of a function of several parts. -/
def unprod : (a : Ty) → a.den → List TV
  | .prod a b, x => ⟨a, x.1⟩ :: unprod b x.2
  | τ, x => [⟨τ, x⟩]

/-- Values as operands: the real values vs stand for them, and own nothing. -/
def ArgsRep (P : Program) (w : World) (F : Nat → Prop) : List TV → List Value → Prop
  | [], vs => vs = []
  | t :: ts, vs => ∃ v vs' cs, vs = v :: vs' ∧ VS t.1 v cs ∧ Rep P t.1 0 w F t.2 cs [] ∧ ArgsRep P w F ts vs'

/-- The results: the values, and what they own. -/
def ResRep (P : Program) (w : World) (F : Nat → Prop) : List Res → List Value → List Nat → Prop
  | [], vs, O => vs = [] ∧ O = []
  | r :: rs, vs, O => ∃ v vs' cs O1 O2, vs = v :: vs' ∧ O = O1 ++ O2 ∧ VS r.τ v cs ∧ Rep P r.τ r.n w F r.x cs O1 ∧ ResRep P w F rs vs' O2

/-- One result is itself; several are a tuple. -/
def tupled : List Value → Value
  | [v] => v
  | vs => .tuple vs.toArray

/-- THE CONTRACT OF A CALL: with these operands these results. -/
def ACall (P : Program) (f : FuncId) (args : List TV) (rs : List Res) : Prop :=
  Fun P f ∧ ∀ (w : World) (F : Nat → Prop) (vs : List Value), (∀ b, F b → b < w.heap.size) → ArgsRep P w F args vs →
    Calls P f vs.toArray w fun e w' => ∃ vr F' O, e = .returned (tupled vr) ∧ ResRep P w' F' rs vr O ∧ Out w F w' F' O

def capsTV : List S → Option (List TV)
  | [] => some []
  | .box _ τ x :: r => (capsTV r).map fun l => ⟨.cptr τ, x⟩ :: l
  | .v _ (.cptr τ) x :: r => (capsTV r).map fun l => ⟨.cptr τ, x⟩ :: l
  | _ => none

def argTV (P : Program) (tys : Tys) (T : TypeId) (r : RS) (sup : List Sup) : Option (TV × List Prop × List Sup) :=
  match r with
  | ⟨_, .nil, _⟩ => match tyAt tys T with
    | some (.slice e) => some (⟨.slice e, []⟩, [], sup)
    | _ => none
  | ⟨_, .clo f _, rts⟩ => match sup, capsTV rts with
    | .fn a b g :: sup', some cl => some (⟨.fn a b, g⟩, [∀ x y, g x = some y → ACall P f (unprod a x ++ cl) [⟨9, b, y⟩]], sup')
    | _, _ => none
  | r => match rdv r with
    | some t => some (t, [], sup)
    | none => none

def argsTV (P : Program) (tys : Tys) : List TypeId → List RS → List Sup → Option (List TV × List Prop × List Sup)
  | _, [], sup => some ([], [], sup)
  | T :: Ts, r :: rs, sup => match argTV P tys T r sup with
    | some (t, o, sup') => match argsTV P tys Ts rs sup' with
      | some (ts, o', sup'') => some (t :: ts, o ++ o', sup'')
      | none => none
    | none => none
  | [], _ :: _, _ => none

/-- All that is owned in the results is all that they are made of: they share nothing with what was handed in. -/
def allFresh : List (Nat × Res) → Bool
  | [] => true
  | (m, r) :: rs => r.τ.data && Nat.ble r.τ.depth r.n && Nat.ble m r.n && allFresh rs

def lowered : List (Nat × Res) → Bool
  | [] => true
  | (m, r) :: rs => Nat.ble m r.n && lowered rs

/-- What is handed in is kept memory, or flat. -/
def argKept : RS → Bool
  | ⟨_, .v n τ _, _⟩ => τ.flat || Nat.beq n 0
  | ⟨_, .nil, _⟩ => true
  | ⟨_, .ext _ i, [.tup rs]⟩ => match rs[i]? with
    | some (some r) => r.τ.flat || Nat.beq r.n 0
    | _ => false
  | _ => false

def resS : List (Nat × Res) → S
  | [(m, r)] => .v m r.τ r.x
  | rs => .tup (rs.map fun q => some ⟨q.1, q.2.τ, q.2.x⟩)

/-- A call of function f. -/
def evCall (P : Program) (tys : Tys) (f : FuncId) (Ts : List TypeId) (args : List RS) (extra : List TV) (sup : List Sup) : QR :=
  match argsTV P tys Ts args sup with
  | some (ts, o, .res rs :: sup') =>
    if (allFresh rs || (args.all argKept && lowered rs)) then some (resS rs, o ++ [ACall P f (ts ++ extra) (rs.map (·.2))], sup') else none
  | _ => none

/-- A call of a function value: its Lean function answers. -/
def prodOf : (a : Ty) → List TV → Option a.den
  | .prod a b, t :: ts => match cast? a t, prodOf b ts with
    | some x, some y => some (x, y)
    | _, _ => none
  | τ, [t] => cast? τ t
  | _, _ => none

def evCallFn (P : Program) (tys : Tys) (a r : Ty) (g : a.den → Option r.den) (Ts : List TypeId) (args : List RS) (sup : List Sup) : QR :=
  match argsTV P tys Ts args sup with
  | some (ts, o, .res [(m, ⟨_, r', y⟩)] :: sup') => match prodOf a ts with
    | some x => match cast? r ⟨r', y⟩ with
      | some y' => if (r.data && Nat.ble r.depth 9 && Nat.ble m 9) then some (.v m r y', o ++ [g x = some y'], sup') else none
      | none => none
    | none => none
  | _ => none

def evExtract (i : Nat) (x : RS) (sup : List Sup) : QR :=
  match x with
  | ⟨_, .bor V [], [.tup rs]⟩ => match rs[i]? with
    | some (some r) => if r.τ.flat || Nat.beq r.n 0 then some (.v 0 r.τ r.x, [], sup) else some (.ext V i, [], sup)
    | _ => none
  | ⟨some V, .tup rs, _⟩ => match rs[i]? with
    | some (some r) => if r.τ.flat || Nat.beq r.n 0 then some (.v 0 r.τ r.x, [], sup) else some (.ext V i, [], sup)
    | _ => none
  | _ => none

/-- A copy of an operand. -/
def evMove (tys : Tys) (T : TypeId) (x : RS) (sup : List Sup) : QR :=
  match x with
  | ⟨some V, .v n τ x, _⟩ => if τ.flat || Nat.beq n 0 then some (.v 0 τ x, [], sup) else some (.bor V [], [], sup)
  | ⟨none, .v n τ x, _⟩ => if τ.flat || Nat.beq n 0 then some (.v 0 τ x, [], sup) else none
  | ⟨some V, .tup _, _⟩ => some (.bor V [], [], sup)
  | ⟨some V, .hol false _ _ _ _, _⟩ => some (.bor V [], [], sup)
  | ⟨_, .nil, _⟩ => match tyAt tys T with
    | some (.slice e) => some (.v 9 (.slice e) [], [], sup)
    | _ => none
  | ⟨_, .ref V p, _⟩ => some (.ref V p, [], sup)
  | ⟨_, .bor V p, _⟩ => some (.bor V p, [], sup)
  | ⟨_, .bsl V p l h, _⟩ => some (.bsl V p l h, [], sup)
  | ⟨_, .ext V i, _⟩ => some (.ext V i, [], sup)
  | ⟨_, .hrf V l, _⟩ => some (.hrf V l, [], sup)
  | ⟨_, .clo f c, _⟩ => some (.clo f c, [], sup)
  | _ => none

def pickB (β : Bool) (a b : Operand) (x y : Bool) : Bool :=
  match a, b with
  | _, .const (.bool false) => β && x
  | .const (.bool true), _ => β || y
  | .const (.bool false), _ => !β && y
  | _, .const (.bool true) => !β || x
  | _, _ => bif β then x else y

def evPick (a b : Operand) (c : Option Bool) (x y : RS) (sup : List Sup) : QR :=
  match c, rdk x, rdk y with
  | some β, some ⟨.bool, u⟩, some ⟨.bool, v⟩ => qv .bool (pickB β a b u v) [] sup
  | some β, some ⟨τ, u⟩, some ⟨τ', v⟩ => if h : τ' = τ then (if τ.flat then qv τ (bif β then u else h ▸ v) [] sup else none) else none
  | _, _, _ => none

def distinct : List Nat → Bool
  | [] => true
  | i :: r => !(r.any (Nat.beq i)) && distinct r

def capSlots : List Operand → Option (List Nat)
  | [] => some []
  | .tmp t :: r => (capSlots r).map (t :: ·)
  | _ => none

/-- An operation that reads, reckons, calls, makes: what it yields. ok: the guards that are known to hold; oka, okb: those known to hold where a pick takes its first, its second. -/
def evalQ (P : Program) (tys : Tys) (ok oka okb : List (Nat × Bool)) (e : Nat → S) (o : Oper) (sup : List Sup) : QR :=
  match o.op with
  | .move x => evMove tys o.type (opd ok e x) sup
  | .pick c a b => evPick a b (rdBool (opd ok e c)) (opd oka e a) (opd okb e b) sup
  | .alloc T => match tyAt tys T with
    | some τ => if τ.data then some (.box 9 τ τ.zero, [], sup) else none
    | none => none
  | .load T a => evLoad tys T (opd ok e a) sup
  | .fieldAddr T a f => evFieldAddr tys T f (opd ok e a) sup
  | .field T a f => evField tys T f (opd ok e a) sup
  | .indexAddr T a i => evIndexAddr tys T (opd ok e a) (opd ok e i) sup
  | .index T a i => evIndex tys T (opd ok e a) (opd ok e i) sup
  | .binOp op T x y _ => evBin tys op T (opd ok e x) (opd ok e y) sup
  | .unOp op _ x => evUn op (opd ok e x) sup
  | .convert src dst x => evConvert tys src dst (opd ok e x) sup
  | .makeSlice T l c => evMakeSlice tys T (opd ok e l) (opd ok e c) sup
  | .slice T x lo hi mx => evSlice tys T (opd ok e x) (lo.map (opd ok e)) (hi.map (opd ok e)) (mx.map (opd ok e)) sup
  | .buildSlice T n parts => match tyAt tys T with
    | some (.slice E) => if Nat.beq parts.size n && E.data && Nat.ble (n * E.sz) 16777216 then match evBuildSlice E 0 (parts.toList.map fun q => (q.1, opd ok e q.2)) with
        | some xs => match sup with
          | .frz :: sup' => some (.v 0 (.slice E) xs, [], sup')
          | _ => some (.v (if E.flat then 9 else 1) (.slice E) xs, [], sup)
        | none => none
      else none
    | _ => none
  | .build T parts => match tyAt tys T with
    | some (.st a) => if a.data && distinct (parts.toList.map (·.1)) && (parts.toList.all fun q => (fldTy a q.1).isSome) then match evBuildSt a 0 (parts.toList.map fun q => (q.1, opd ok e q.2)) with
        | some x => some (.v 0 (.st a) x, [], sup)
        | none => none
      else none
    | _ => none
  | .makeFunc (.func f) first captured => match first.toList, capSlots captured.toList with
    | [], some cs => some (.clo f cs, [], sup)
    | _, _ => none
  | .extract t i => evExtract i (opd ok e t) sup
  | .call ⟨.value (.func f), args, Ts⟩ => evCall P tys f Ts.toList (args.toList.map (opd ok e)) [] sup
  | .call ⟨.value (.tmp t), args, Ts⟩ => match opd ok e (.tmp t) with
    | ⟨_, .v _ (.fn a r) g, _⟩ => evCallFn P tys a r g Ts.toList (args.toList.map (opd ok e)) sup
    | _ => none
  | .call ⟨.builtin .len, args, Ts⟩ => match args.toList, Ts.toList with
    | [x], [T] => evLen tys T (opd ok e x) sup
    | _, _ => none
  | .call ⟨.builtin .max, args, _⟩ => evMM true (args.toList.map (opd ok e)) sup
  | .call ⟨.builtin .min, args, _⟩ => evMM false (args.toList.map (opd ok e)) sup
  | _ => none

abbrev Env := List (Nat × S)

def Env.at : Env → Nat → S
  | [], _ => .dead
  | (k, s) :: r, t => if Nat.beq t k then s else Env.at r t

def rooted (V : Nat) (s : S) : Bool := (roots s).any (Nat.beq V)

/-- What is tied to slot V is let go. -/
def Env.kill (E : Env) (V : Nat) : Env := E.map fun q => (q.1, if rooted V q.2 then .dead else q.2)
def Env.set (E : Env) (t : Nat) (s : S) : Env := (t, s) :: E

def isBor : S → Bool
  | .bor _ _ | .bsl _ _ _ _ => true
  | .cnd _ s => isBor s
  | _ => false
/-- Copies of what lies in slot V are let go; addresses stay. -/
def Env.killBor (E : Env) (V : Nat) : Env := E.map fun q => (q.1, if isBor q.2 && rooted V q.2 then .dead else q.2)

/-- Two paths are the same if these numbers are. -/
def pathEq : List Step → List Step → Option (List Prop)
  | [], [] => some []
  | .fld i :: p, .fld j :: q => if Nat.beq i j then pathEq p q else none
  | .idx i :: p, .idx j :: q => (pathEq p q).map fun l => (i = j) :: l
  | _, _ => none

/-- A copy of the whole of a value stays where a hole is made behind it. -/
def keepBor : Bool → List Step → List Step → Bool
  | false, .idx _ :: _, [] => true
  | _, _, _ => false

/-- A hole is made in slot V at p: addresses of the place become those of the hole; all else that is tied to V is let go. -/
def holeS (bx : Bool) (V : Nat) (p : List Step) : S → S
  | .bor W q => if keepBor bx p q || !(Nat.beq V W) then .bor W q else .dead
  | .ref W q => if Nat.beq V W then (match pathEq q p with
    | some l => .hrf V l
    | none => .dead) else .ref W q
  | s => if rooted V s then .dead else s
def Env.hole (E : Env) (bx : Bool) (V : Nat) (p : List Step) : Env := E.map fun q => (q.1, holeS bx V p q.2)

/-- A value is taken out of where it lies, to be laid elsewhere: its depth, itself, the frame behind it. -/
def takeV (E : Env) (T : Option Ty) (r : RS) : Option (Nat × TV × Env) :=
  match r with
  | ⟨_, .nil, _⟩ => match T with
    | some (.slice e) => some (9, ⟨.slice e, []⟩, E)
    | _ => none
  | ⟨none, .v _ τ x, _⟩ => if τ.flat then some (9, ⟨τ, x⟩, E) else none
  | ⟨some t, .v n τ x, _⟩ => if τ.flat then some (9, ⟨τ, x⟩, E) else if Nat.beq n 0 then some (0, ⟨τ, x⟩, E) else some (n, ⟨τ, x⟩, (E.kill t).set t .dead)
  | ⟨_, .bor V [], [.v n τ x]⟩ => some (n, ⟨τ, x⟩, (E.kill V).set V .dead)
  | ⟨_, .bor V (s :: p), [.v n τ x]⟩ => match get (s :: p) τ x with
    | some t => if Nat.ble (idxs (s :: p)) n && Nat.ble 1 (idxs (s :: p)) then some (n - idxs (s :: p), t, (E.hole false V (s :: p)).set V (.hol false n τ x (s :: p))) else none
    | none => none
  | ⟨_, .bor V (s :: p), [.box n τ x]⟩ => match get (s :: p) τ x with
    | some t => if Nat.ble (idxs (s :: p)) n then some (n - idxs (s :: p), t, (E.hole true V (s :: p)).set V (.hol true n τ x (s :: p))) else none
    | none => none
  | ⟨_, .bsl V [] l h, [.v n (.slice e) xs]⟩ => if Nat.beq n 0 then none else some (n, ⟨.slice e, sl xs l h⟩, (E.kill V).set V .dead)
  | ⟨_, .ext V i, [.tup rs]⟩ => match rs[i]? with
    | some (some r) => some (r.n, ⟨r.τ, r.x⟩, E.set V (.tup (rs.set i none)))
    | _ => none
  | _ => none

/-- A copy that is no value. -/
def copyS : S → Option S
  | .ref V p => some (.ref V p)
  | .clo f c => some (.clo f c)
  | _ => none

def evAssign (tys : Tys) (E : Env) (d : Nat) (T : TypeId) (r : RS) : Option Env :=
  match copyS r.s with
  | some s => if rooted d s then none else some ((E.kill d).set d s)
  | none => match takeV E (tyAt tys T) r with
    | some (n, t, E') => some ((E'.kill d).set d (.v (if t.1.flat then 0 else n) t.1 t.2))
    | none => none

def isHol : S → Bool
  | .hol _ _ _ _ _ => true
  | _ => false

def noHol (E : Env) : Bool := !(E.any fun q => isHol q.2)

def evStore (tys : Tys) (E : Env) (T : TypeId) (a r : RS) : Option (Env × List Prop) :=
  match tyAt tys T with
  | none => none
  | some τ => match takeV E (some τ) r with
    | none => none
    | some (n, t, E') => if t.1 = τ then match a with
      | ⟨some V, .box _ τ' _, _⟩ => if τ' = τ && noHol E' then match E'.at V with
          | .box _ σ _ => if σ = τ then some ((E'.kill V).set V (.box n t.1 t.2), []) else none
          | _ => none
        else none
      | ⟨_, .ref V p, _⟩ => if noHol E' then match E'.at V with
        | .v m σ x => match get p σ x, put p σ x t with
          | some t', some y => if t'.1 = τ && Nat.ble (idxs p) m && Nat.ble 1 (idxs p) then some ((if τ.flat then E'.killBor V else E'.kill V).set V (.v (if τ.flat then m else min m (n + idxs p)) σ y), []) else none
          | _, _ => none
        | .box m σ x => match get p σ x, put p σ x t with
          | some t', some y => if t'.1 = τ && Nat.ble (idxs p) m then some ((if τ.flat then E'.killBor V else E'.kill V).set V (.box (if τ.flat then m else min m (n + idxs p)) σ y), []) else none
          | _, _ => none
        | _ => none
        else none
      | ⟨_, .hrf V l, _⟩ => match E'.at V with
        | .hol bx m σ x p => match get p σ x, put p σ x t with
          | some t', some y => if t'.1 = τ && Nat.ble (m - idxs p) n then some ((E'.kill V).set V (if bx then .box m σ y else .v m σ y), l) else none
          | _, _ => none
        | _ => none
      | _ => none
    else none

def evBox (tys : Tys) (E : Env) (d : Nat) (T : TypeId) (r : RS) : Option Env :=
  match tyAt tys T with
  | none => none
  | some τ => match takeV E (some τ) r with
    | some (n, t, E') => if t.1 = τ && τ.data then some ((E'.kill d).set d (.box n t.1 t.2)) else none
    | none => none

/-- append: the row that grows, taken out of where it lies; what is put behind it. -/
def evAppend (tys : Tys) (E : Env) (d : Nat) (T : TypeId) (s : RS) (x : Operand) : Option (Env × List Prop) :=
  match tyAt tys T with
  | some (.slice e) => match takeV E (some (.slice e)) s with
    | some (n + 1, ⟨.slice e1, xs⟩, E1) => if h1 : e1 = e then
        (if e.data then (if e.flat then match rdv (opd [] E.at x) with
          | some ⟨.slice e2, ys⟩ => if h2 : e2 = e then
              some ((E1.kill d).set d (.v (n + 1) (.slice e) ((h1 ▸ xs : List e.den) ++ (h2 ▸ ys : List e.den))), [((xs.length + ys.length : Nat) : Int) ≤ limA])
            else none
          | _ => none
        else match takeV E1 (some (.slice e)) (opd [] E1.at x) with
          | some (k, ⟨.slice e2, ys⟩, E2) => if h2 : e2 = e then
              some ((E2.kill d).set d (.v (min n (k - 1) + 1) (.slice e) ((h1 ▸ xs : List e.den) ++ (h2 ▸ ys : List e.den))), [((xs.length + ys.length : Nat) : Int) ≤ limA])
            else none
          | _ => none)
        else none)
      else none
    | _ => none
  | _ => none

/-- What is known of the guards. -/
abbrev Gs := List ((Nat × Bool) × Bool)
def Gs.at : Gs → Nat × Bool → Option Bool
  | [], _ => none
  | (g, c) :: r, h => if Nat.beq g.1 h.1 && g.2 == h.2 then some c else Gs.at r h

def bcond (b β : Bool) : Bool := match b with
  | true => β
  | false => !β

structure St where
  E : Env
  G : Gs
  sup : List Sup
  obs : List Prop

/-- The slot in which a guard's condition lies. -/
def gslot (ops : List Oper) (j : Nat) : Option Nat := (ops[j]?).bind (·.dst)

/-- The guards that hold where this one does. -/
def anc (ops : List Oper) (e : Nat → S) : Nat → Nat × Bool → List (Nat × Bool)
  | 0, g => [g]
  | k + 1, g => g :: match gslot ops g.1 with
    | some d => match e d with
      | .cnd g' _ => anc ops e k g'
      | _ => []
    | none => []

/-- What a guard's condition is. -/
def gcond (ops : List Oper) (e : Nat → S) (G : Gs) (g : Nat × Bool) : Option Bool :=
  match gslot ops g.1 with
  | none => none
  | some d => match e d with
    | .v _ .bool β => some (bcond g.2 β)
    | .cnd g' (.v _ .bool β) => match G.at g' with
      | some c => some (c && bcond g.2 β)
      | none => none
    | _ => none

/-- The guards that hold where a pick takes this side. -/
def pickG (ops : List Oper) (b : Bool) (c : Nat) : Gs → List (Nat × Bool)
  | [] => []
  | (g, _) :: r => match gslot ops g.1 with
    | some d => if Nat.beq d c && (g.2 == b) then g :: pickG ops b c r else pickG ops b c r
    | none => pickG ops b c r

def pickOk (ops : List Oper) (G : Gs) (o : Oper) (b : Bool) (ok : List (Nat × Bool)) : List (Nat × Bool) :=
  match o.op with
  | .pick (.tmp c) _ _ => pickG ops b c G ++ ok
  | _ => ok

/-- An operation that reads, reckons, calls, makes. -/
def quiet (P : Program) (tys : Tys) (ops : List Oper) (e : Nat → S) (G : Gs) (o : Oper) (sup : List Sup) : Option (S × List Prop × List Sup × Gs) :=
  match o.guard with
  | none => match evalQ P tys [] (pickOk ops G o true []) (pickOk ops G o false []) e o sup with
    | some (s, obs, sup') => some (s, obs, sup', G)
    | none => none
  | some g => match gcond ops e G g with
    | none => none
    | some c => match evalQ P tys (anc ops e ops.length g) (pickOk ops G o true (anc ops e ops.length g)) (pickOk ops G o false (anc ops e ops.length g)) e o sup with
      | some (s, obs, sup') => some (.cnd g s, obs.map (fun p => c = true → p), sup', match G.at g with
        | some _ => G
        | none => (g, c) :: G)
      | none => none

/-- No slot's word hangs on this guard. -/
def hasG (g : Nat × Bool) : S → Bool
  | .cnd h s => (Nat.beq h.1 g.1 && (h.2 == g.2)) || hasG g s
  | _ => false

def newG (E : Env) (G : Gs) (o : Oper) : Bool :=
  match o.guard with
  | none => true
  | some g => match G.at g with
    | some _ => true
    | none => !(E.any fun q => hasG g q.2)

/-- What hangs on guards is let go. -/
def dropS : S → S
  | .cnd _ _ => .dead
  | s => s
def Env.drop (E : Env) : Env := E.map fun q => (q.1, dropS q.2)

def noG (ops : List Oper) (G : Gs) (d : Nat) : Bool := !(G.any fun q => match gslot ops q.1.1 with | some d' => Nat.beq d d' | none => false)

/-- A slot may be written: nothing is tied to it, and no guard looks at it. -/
def free (ops : List Oper) (N : Nat) (E : Env) (G : Gs) (d : Nat) (s : S) : Bool :=
  Nat.blt d N && !(E.any fun q => rooted d q.2) && noG ops G d && !(rooted d s)

def isEff (o : Oper) : Bool :=
  match o.op with
  | .assign _ | .store _ _ _ | .box _ _ => true
  | .call ⟨.builtin .append, _, _⟩ => true
  | _ => false

/-- An operation that writes. -/
def effect (tys : Tys) (N : Nat) (E : Env) (o : Oper) : Option (Env × List Prop) :=
  match o.guard, o.op, o.dst with
  | none, .assign x, some d => if Nat.blt d N then match evAssign tys E d o.type (opd [] E.at x) with
      | some E' => some (E', [])
      | none => none
    else none
  | none, .box T x, some d => if Nat.blt d N then match evBox tys E d T (opd [] E.at x) with
      | some E' => some (E', [])
      | none => none
    else none
  | none, .store T a x, none => evStore tys E T (opd [] E.at a) (opd [] E.at x)
  | none, .call ⟨.builtin .append, args, Ts⟩, some d => if Nat.blt d N then match args.toList, Ts.toList with
      | [s, x], [T, T2] => if tyAt tys T2 = tyAt tys T then evAppend tys E d T (opd [] E.at s) x else none
      | _, _ => none
    else none
  | _, _, _ => none

/-- One operation, in the region's order. -/
def stepO (P : Program) (tys : Tys) (N : Nat) (ops : List Oper) (o : Oper) (st : St) : Option St :=
  match isEff o with
  | true => match effect tys N st.E.drop o with
    | some (E, l) => some ⟨E, [], st.sup, st.obs ++ l⟩
    | none => none
  | false => match o.dst with
    | none => none
    | some d => match quiet P tys ops st.E.at st.G o st.sup with
      | some (s, l, sup, G) => if free ops N st.E G d s && newG st.E st.G o then some ⟨st.E.set d s, G, sup, st.obs ++ l⟩ else none
      | none => none

def evalOps (P : Program) (tys : Tys) (N : Nat) (ops : List Oper) : List Oper → St → Option St
  | [], st => some st
  | o :: r, st => match stepO P tys N ops o st with
    | some st' => evalOps P tys N ops r st'
    | none => none

/-- All of these. -/
def AllP : List Prop → Prop
  | [] => True
  | [p] => p
  | p :: q :: r => p ∧ AllP (q :: r)

theorem AllP_iff : ∀ {l : List Prop}, AllP l ↔ ∀ p ∈ l, p
  | [] => ⟨fun _ p hp => (List.not_mem_nil hp).elim, fun _ => trivial⟩
  | [p] => ⟨fun h q hq => by rw [List.mem_singleton.1 hq]; exact h, fun h => h p (List.mem_singleton.2 rfl)⟩
  | p :: q :: r => by
    have := AllP_iff (l := q :: r)
    simp only [AllP, this, List.forall_mem_cons]

end Go.Tom
