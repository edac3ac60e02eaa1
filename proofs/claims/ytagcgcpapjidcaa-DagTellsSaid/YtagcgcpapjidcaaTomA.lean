/- Typed values over the model's memory: what real cells stand for (Ty, den, Rep), and how it is kept when the world goes on. -/
import Derived.WalkKit
set_option linter.unusedVariables false
set_option linter.unusedSimpArgs false
namespace Go.Tom
open Go

inductive Ty where
  | int (k : IntKind)
  | bool
  | str
  | slice (e : Ty)
  | prod (a b : Ty)
  | st (a : Ty)
  | cptr (a : Ty)
  | fn (a r : Ty)
  deriving DecidableEq, Inhabited

@[reducible] def Ty.den : Ty → Type
  | .int _ => Int
  | .bool => Bool
  | .str => ByteArray
  | .slice e => List e.den
  | .prod a b => a.den × b.den
  | .st a => a.den
  | .cptr a => a.den
  | .fn a r => a.den → Option r.den

def Ty.zero : (τ : Ty) → τ.den
  | .int _ => (0 : Int)
  | .bool => false
  | .str => ByteArray.empty
  | .slice _ => []
  | .prod a b => (a.zero, b.zero)
  | .st a => a.zero
  | .cptr a => a.zero
  | .fn _ _ => fun _ => none

/-- How many cells. -/
def Ty.sz : Ty → Nat
  | .prod a b => a.sz + b.sz
  | .st a => a.sz
  | _ => 1

/-- No memory behind it. -/
def Ty.flat : Ty → Bool
  | .int _ | .bool | .str => true
  | .slice _ | .cptr _ | .fn _ _ => false
  | .prod a b => a.flat && b.flat
  | .st a => a.flat

/-- Plain data: no pointer, no function. -/
def Ty.data : Ty → Bool
  | .int _ | .bool | .str => true
  | .slice e => e.data
  | .cptr _ | .fn _ _ => false
  | .prod a b => a.data && b.data
  | .st a => a.data

/-- How deep its slices lie in each other. -/
def Ty.depth : Ty → Nat
  | .int _ | .bool | .str => 0
  | .slice e => e.depth + 1
  | .cptr _ | .fn _ _ => 1000
  | .prod a b => max a.depth b.depth
  | .st a => a.depth

/-- The cells of a row, one behind the other. -/
def At (w : World) (b o : Nat) (cs : List Value) : Prop := ∀ j (h : j < cs.length), w.cell? ⟨b, o + j, none⟩ = some cs[j]

/-- A value's cells. -/
def VS (τ : Ty) (v : Value) (cs : List Value) : Prop :=
  match τ with
  | .st _ => v = .agg cs.toArray
  | _ => cs = [v]

/-- The operands of a call, one for each part. -/
def ArgS : Ty → List Value → List Value → Prop
  | .prod a b, vs, cs => ∃ v vs' cs1 cs2, vs = v :: vs' ∧ cs = cs1 ++ cs2 ∧ cs1.length = a.sz ∧ VS a v cs1 ∧ ArgS b vs' cs2
  | τ, vs, cs => ∃ v, vs = [v] ∧ VS τ v cs

/-- The world went on, and what is kept is as it was. -/
structure Ext (w : World) (F : Nat → Prop) (w' : World) (F' : Nat → Prop) : Prop where
  sub : ∀ b, F b → F' b
  keep : ∀ b, F b → w'.heap[b]? = w.heap[b]?
  lt : ∀ b, F' b → b < w'.heap.size

theorem Ext.trans {w w1 w2 : World} {F F1 F2 : Nat → Prop} (h : Ext w F w1 F1) (h' : Ext w1 F1 w2 F2) : Ext w F w2 F2 :=
  ⟨fun b hb => h'.sub b (h.sub b hb), fun b hb => (h'.keep b (h.sub b hb)).trans (h.keep b hb), h'.lt⟩

/-- What comes of a call: the world below is as it was, what was kept is, and so is what is kept now; the blocks that are owned are new, each once, and none is kept. -/
structure Out (w : World) (F : Nat → Prop) (w' : World) (F' : Nat → Prop) (O : List Nat) : Prop where
  below : RowKit.Below w.heap.size w w'
  sub : ∀ b, F b → F' b
  lt : ∀ b, F' b → b < w'.heap.size
  old : ∀ b, F' b → b < w.heap.size → F b
  nodup : O.Nodup
  new : ∀ b ∈ O, w.heap.size ≤ b ∧ b < w'.heap.size ∧ ¬ F' b

/-- An owned block. -/
def OwnBlk (w : World) (b n : Nat) : Prop := ∃ c el, w.heap[b]? = some (.cells c el (0, 0)) ∧ n ≤ c.size

/-- A function with a Go body. -/
def Fun (P : Program) (f : FuncId) : Prop := ∃ fn, P.funcs[f]? = some fn ∧ (fn.name == "runtime.NumGoroutine") = false ∧ fn.body.isNone = false

/-- REAL CELLS STAND FOR A TYPED VALUE. n: how deep its slices are owned (0: they lie in kept memory). F: the blocks that are kept. O: the blocks that are owned. -/
def Rep (P : Program) : (τ : Ty) → Nat → World → (Nat → Prop) → τ.den → List Value → List Nat → Prop
  | .int k, _, _, _, x, cs, O => cs = [.int k x] ∧ O = []
  | .bool, _, _, _, x, cs, O => cs = [.bool x] ∧ O = []
  | .str, _, _, _, x, cs, O => cs = [.string x] ∧ O = []
  | .slice e, n, w, F, xs, cs, O => ∃ (a : Option Addr) (cap : Nat) (css : List (List Value)) (Os : List (List Nat)),
      cs = [.slice a xs.length cap] ∧ xs.length ≤ cap ∧ css.length = xs.length ∧ Os.length = xs.length ∧
      (∀ i (h : i < xs.length) (h1 : i < css.length) (h2 : i < Os.length), Rep P e (n - 1) w F xs[i] css[i] Os[i] ∧ css[i].length = e.sz) ∧
      ((n = 0 ∧ O = Os.flatten ∧ (xs = [] ∨ ∃ b o, a = some ⟨b, o, none⟩ ∧ F b ∧ ∀ i (h1 : i < css.length), At w b (o + i * e.sz) css[i])) ∨
       (0 < n ∧ cap = 0 ∧ O = []) ∨
       (0 < n ∧ ∃ b o, a = some ⟨b, o, none⟩ ∧ (∀ i (h1 : i < css.length), At w b (o + i * e.sz) css[i]) ∧ OwnBlk w b (o + cap * e.sz) ∧ O = b :: Os.flatten))
  | .prod a b, n, w, F, x, cs, O => ∃ cs1 cs2 O1 O2, cs = cs1 ++ cs2 ∧ O = O1 ++ O2 ∧ cs1.length = a.sz ∧ cs2.length = b.sz ∧ Rep P a n w F x.1 cs1 O1 ∧ Rep P b n w F x.2 cs2 O2
  | .st a, n, w, F, x, cs, O => Rep P a n w F x cs O
  | .cptr a, _, w, F, x, cs, O => ∃ b o cs', cs = [.pointer (some ⟨b, o, none⟩)] ∧ F b ∧ At w b o cs' ∧ cs'.length = a.sz ∧ Rep P a 0 w F x cs' [] ∧ O = []
  | .fn a r, _, w, F, g, cs, O => O = [] ∧ ∃ f first cap, cs = [.func (.func f) first cap] ∧
      ∀ w' F', Ext w F w' F' → ∀ x vs cs' y, g x = some y → Rep P a 0 w' F' x cs' [] → ArgS a vs cs' →
        Fun P f ∧ Calls P f (first ++ vs.toArray ++ cap) w' fun e w'' => ∃ v cs'' F'' O'', e = .returned v ∧ VS r v cs'' ∧ Rep P r 9 w'' F'' y cs'' O'' ∧ Out w' F' w'' F'' O''

theorem Rep.length {P : Program} : ∀ {τ : Ty} {n : Nat} {w : World} {F : Nat → Prop} {x : τ.den} {cs : List Value} {O : List Nat}, Rep P τ n w F x cs O → cs.length = τ.sz := by
  intro τ
  induction τ with
  | prod a b iha ihb =>
    intro n w F x cs O h
    obtain ⟨cs1, cs2, O1, O2, rfl, rfl, h1, h2, r1, r2⟩ := h
    simp [Ty.sz, h1, h2]
  | st a ih => intro n w F x cs O h; exact ih h
  | int k => intro n w F x cs O h; rw [h.1]; rfl
  | bool => intro n w F x cs O h; rw [h.1]; rfl
  | str => intro n w F x cs O h; rw [h.1]; rfl
  | slice e ih => intro n w F x cs O h; obtain ⟨a, cap, css, Os, rfl, _⟩ := h; rfl
  | cptr a ih => intro n w F x cs O h; obtain ⟨b, o, cs', rfl, _⟩ := h; rfl
  | fn a r _ _ => intro n w F x cs O h; obtain ⟨_, f, first, cap, rfl, _⟩ := h; rfl

theorem flatten_nil {α : Type} : ∀ {l : List (List α)}, (∀ x ∈ l, x = []) → l.flatten = []
  | [], _ => rfl
  | x :: l, h => by
    rw [List.flatten_cons, h x (List.mem_cons_self ..), flatten_nil fun y hy => h y (List.mem_cons_of_mem _ hy)]; rfl

/-- Nothing is owned in kept memory. -/
theorem Rep.zero_nil {P : Program} : ∀ {τ : Ty} {w : World} {F : Nat → Prop} {x : τ.den} {cs : List Value} {O : List Nat}, Rep P τ 0 w F x cs O → O = [] := by
  intro τ
  induction τ with
  | prod a b iha ihb =>
    intro w F x cs O h
    obtain ⟨cs1, cs2, O1, O2, rfl, rfl, h1, h2, r1, r2⟩ := h
    rw [iha r1, ihb r2]; rfl
  | st a ih => intro w F x cs O h; exact ih h
  | int k => intro w F x cs O h; exact h.2
  | bool => intro w F x cs O h; exact h.2
  | str => intro w F x cs O h; exact h.2
  | slice e ih =>
    intro w F x cs O h
    obtain ⟨a, cap, css, Os, rfl, _, hcl, hol, hr, h | h | h⟩ := h
    · obtain ⟨_, rfl, _⟩ := h
      refine flatten_nil fun y hy => ?_
      obtain ⟨i, hi, rfl⟩ := List.getElem_of_mem hy
      exact ih (hr i (by omega) (by omega) hi).1
    · omega
    · omega
  | cptr a ih => intro w F x cs O h; obtain ⟨b, o, cs', rfl, _, _, _, _, rfl⟩ := h; rfl
  | fn a r _ _ => intro w F x cs O h; exact h.1

/-- A flat value owns nothing and looks at no memory. -/
theorem Rep.flat {P : Program} : ∀ {τ : Ty} {n : Nat} {w : World} {F : Nat → Prop} {x : τ.den} {cs : List Value} {O : List Nat}, τ.flat = true → Rep P τ n w F x cs O →
    O = [] ∧ ∀ n' w' F', Rep P τ n' w' F' x cs [] := by
  intro τ
  induction τ with
  | prod a b iha ihb =>
    intro n w F x cs O hf h
    obtain ⟨cs1, cs2, O1, O2, rfl, rfl, h1, h2, r1, r2⟩ := h
    simp [Ty.flat] at hf
    obtain ⟨rfl, k1⟩ := iha hf.1 r1
    obtain ⟨rfl, k2⟩ := ihb hf.2 r2
    exact ⟨rfl, fun n' w' F' => ⟨cs1, cs2, [], [], rfl, rfl, h1, h2, k1 n' w' F', k2 n' w' F'⟩⟩
  | st a ih => intro n w F x cs O hf h; exact ih hf h
  | int k => intro n w F x cs O _ h; exact ⟨h.2, fun _ _ _ => ⟨h.1, rfl⟩⟩
  | bool => intro n w F x cs O _ h; exact ⟨h.2, fun _ _ _ => ⟨h.1, rfl⟩⟩
  | str => intro n w F x cs O _ h; exact ⟨h.2, fun _ _ _ => ⟨h.1, rfl⟩⟩
  | slice e ih => intro n w F x cs O hf; simp [Ty.flat] at hf
  | cptr a ih => intro n w F x cs O hf; simp [Ty.flat] at hf
  | fn a r _ _ => intro n w F x cs O hf; simp [Ty.flat] at hf

theorem cell?_congr {w w' : World} {a : Addr} (h : w'.heap[a.block]? = w.heap[a.block]?) : w'.cell? a = w.cell? a := by
  unfold World.cell?; rw [h]

theorem At.congr {w w' : World} {b o : Nat} {cs : List Value} (h : w'.heap[b]? = w.heap[b]?) (hc : At w b o cs) : At w' b o cs :=
  fun j hj => by rw [cell?_congr (a := ⟨b, o + j, none⟩) h]; exact hc j hj

theorem OwnBlk.congr {w w' : World} {b n : Nat} (h : w'.heap[b]? = w.heap[b]?) (hc : OwnBlk w b n) : OwnBlk w' b n := by
  obtain ⟨c, el, hb, hn⟩ := hc
  exact ⟨c, el, h.trans hb, hn⟩

/-- A block reads as it did. -/
structure BSame (w w' : World) (b : Nat) : Prop where
  cell : ∀ j, w'.cell? ⟨b, j, none⟩ = w.cell? ⟨b, j, none⟩
  own : ∀ n, OwnBlk w b n → OwnBlk w' b n

theorem BSame.of_heap {w w' : World} {b : Nat} (h : w'.heap[b]? = w.heap[b]?) : BSame w w' b :=
  ⟨fun j => cell?_congr (a := ⟨b, j, none⟩) h, fun _ hn => hn.congr h⟩

theorem At.same {w w' : World} {b o : Nat} {cs : List Value} (h : BSame w w' b) (hc : At w b o cs) : At w' b o cs :=
  fun j hj => by rw [h.cell]; exact hc j hj

/-- WHAT A VALUE STANDS FOR IS KEPT where its blocks are. -/
theorem Rep.mono {P : Program} : ∀ {τ : Ty} {n : Nat} {w w' : World} {F F' : Nat → Prop} {x : τ.den} {cs : List Value} {O : List Nat}, Rep P τ n w F x cs O →
    Ext w F w' F' → (∀ b ∈ O, BSame w w' b) → Rep P τ n w' F' x cs O := by
  intro τ
  induction τ with
  | prod a b iha ihb =>
    intro n w w' F F' x cs O h he ho
    obtain ⟨cs1, cs2, O1, O2, rfl, rfl, h1, h2, r1, r2⟩ := h
    exact ⟨cs1, cs2, O1, O2, rfl, rfl, h1, h2, iha r1 he fun b hb => ho b (List.mem_append_left _ hb), ihb r2 he fun b hb => ho b (List.mem_append_right _ hb)⟩
  | st a ih => intro n w w' F F' x cs O h he ho; exact ih h he ho
  | int k => intro n w w' F F' x cs O h _ _; exact h
  | bool => intro n w w' F F' x cs O h _ _; exact h
  | str => intro n w w' F F' x cs O h _ _; exact h
  | slice e ih =>
    intro n w w' F F' x cs O h he ho
    obtain ⟨a, cap, css, Os, rfl, hcap, hcl, hol, hr, hs⟩ := h
    have hmem : ∀ i (h2 : i < Os.length), ∀ b ∈ Os[i], b ∈ Os.flatten := fun i h2 b hb => List.mem_flatten.2 ⟨_, List.getElem_mem h2, hb⟩
    rcases hs with ⟨hn, rfl, hs⟩ | ⟨hn, hc0, rfl⟩ | ⟨hn, b, o, rfl, hat, hb, rfl⟩
    · refine ⟨a, cap, css, Os, rfl, hcap, hcl, hol, fun i h h1 h2 => ⟨ih (hr i h h1 h2).1 he fun b hb => ho b (hmem i h2 b hb), (hr i h h1 h2).2⟩, .inl ⟨hn, rfl, ?_⟩⟩
      rcases hs with hs | ⟨b, o, rfl, hF, hat⟩
      · exact .inl hs
      · exact .inr ⟨b, o, rfl, he.sub b hF, fun i h1 => (hat i h1).congr (he.keep b hF)⟩
    · refine ⟨a, cap, css, Os, rfl, hcap, hcl, hol, fun i h h1 h2 => absurd h (by omega), .inr (.inl ⟨hn, hc0, rfl⟩)⟩
    · refine ⟨_, cap, css, Os, rfl, hcap, hcl, hol, fun i h h1 h2 => ⟨ih (hr i h h1 h2).1 he fun b hb => ho b (List.mem_cons_of_mem _ (hmem i h2 b hb)), (hr i h h1 h2).2⟩,
        .inr (.inr ⟨hn, b, o, rfl, fun i h1 => (hat i h1).same (ho b (List.mem_cons_self ..)), (ho b (List.mem_cons_self ..)).own _ hb, rfl⟩)⟩
  | cptr a ih =>
    intro n w w' F F' x cs O h he ho
    obtain ⟨b, o, cs', rfl, hF, hat, hl, hr, rfl⟩ := h
    exact ⟨b, o, cs', rfl, he.sub b hF, hat.congr (he.keep b hF), hl, ih hr he (fun b hb => by cases hb), rfl⟩
  | fn a r _ _ =>
    intro n w w' F F' x cs O h he ho
    obtain ⟨rfl, f, first, cap, rfl, hk⟩ := h
    exact ⟨rfl, f, first, cap, rfl, fun w1 F1 h1 => hk w1 F1 (he.trans h1)⟩

/-- Every owned block lies in the world. -/
theorem Rep.owned_lt {P : Program} : ∀ {τ : Ty} {n : Nat} {w : World} {F : Nat → Prop} {x : τ.den} {cs : List Value} {O : List Nat}, Rep P τ n w F x cs O → ∀ b ∈ O, b < w.heap.size := by
  intro τ
  induction τ with
  | prod a b iha ihb =>
    intro n w F x cs O h b hb
    obtain ⟨cs1, cs2, O1, O2, rfl, rfl, h1, h2, r1, r2⟩ := h
    rcases List.mem_append.1 hb with hb | hb
    · exact iha r1 _ hb
    · exact ihb r2 _ hb
  | st a ih => intro n w F x cs O h; exact ih h
  | int k => intro n w F x cs O h; rw [h.2]; simp
  | bool => intro n w F x cs O h; rw [h.2]; simp
  | str => intro n w F x cs O h; rw [h.2]; simp
  | slice e ih =>
    intro n w F x cs O h
    obtain ⟨a, cap, css, Os, rfl, hcap, hcl, hol, hr, hs⟩ := h
    have hfl : ∀ b ∈ Os.flatten, b < w.heap.size := by
      intro b hb
      obtain ⟨l, hl, hb⟩ := List.mem_flatten.1 hb
      obtain ⟨i, hi, rfl⟩ := List.getElem_of_mem hl
      exact ih (hr i (by omega) (by omega) hi).1 b hb
    rcases hs with ⟨hn, rfl, hs⟩ | ⟨hn, hc0, rfl⟩ | ⟨hn, b, o, rfl, hat, ⟨c, el, hb, _⟩, rfl⟩
    · exact hfl
    · simp
    · intro b' hb'
      rcases List.mem_cons.1 hb' with rfl | hb'
      · exact (Array.getElem?_eq_some_iff.1 hb).1
      · exact hfl b' hb'
  | cptr a ih => intro n w F x cs O h; obtain ⟨b, o, cs', rfl, _, _, _, _, rfl⟩ := h; simp
  | fn a r _ _ => intro n w F x cs O h; rw [h.1]; simp

/-- Every owned block is a row of cells of the frame's own. -/
theorem Rep.owned_blk {P : Program} : ∀ {τ : Ty} {n : Nat} {w : World} {F : Nat → Prop} {x : τ.den} {cs : List Value} {O : List Nat}, Rep P τ n w F x cs O → ∀ b ∈ O, OwnBlk w b 0 := by
  intro τ
  induction τ with
  | prod a b iha ihb =>
    intro n w F x cs O h b hb
    obtain ⟨cs1, cs2, O1, O2, rfl, rfl, h1, h2, r1, r2⟩ := h
    rcases List.mem_append.1 hb with hb | hb
    · exact iha r1 _ hb
    · exact ihb r2 _ hb
  | st a ih => intro n w F x cs O h; exact ih h
  | int k => intro n w F x cs O h; rw [h.2]; simp
  | bool => intro n w F x cs O h; rw [h.2]; simp
  | str => intro n w F x cs O h; rw [h.2]; simp
  | slice e ih =>
    intro n w F x cs O h
    obtain ⟨a, cap, css, Os, rfl, hcap, hcl, hol, hr, hs⟩ := h
    have hfl : ∀ b ∈ Os.flatten, OwnBlk w b 0 := by
      intro b hb
      obtain ⟨l, hl, hb⟩ := List.mem_flatten.1 hb
      obtain ⟨i, hi, rfl⟩ := List.getElem_of_mem hl
      exact ih (hr i (by omega) (by omega) hi).1 b hb
    rcases hs with ⟨hn, rfl, hs⟩ | ⟨hn, hc0, rfl⟩ | ⟨hn, b, o, rfl, hat, ⟨c, el, hb, _⟩, rfl⟩
    · exact hfl
    · simp
    · intro b' hb'
      rcases List.mem_cons.1 hb' with rfl | hb'
      · exact ⟨c, el, hb, Nat.zero_le _⟩
      · exact hfl b' hb'
  | cptr a ih => intro n w F x cs O h; obtain ⟨b, o, cs', rfl, _, _, _, _, rfl⟩ := h; simp
  | fn a r _ _ => intro n w F x cs O h; rw [h.1]; simp

/-- WHAT IS OWNED MAY BE KEPT FROM NOW ON. -/
theorem Rep.freeze {P : Program} : ∀ {τ : Ty} {n : Nat} {w : World} {F F' : Nat → Prop} {x : τ.den} {cs : List Value} {O : List Nat}, Rep P τ n w F x cs O →
    Ext w F w F' → (∀ b ∈ O, F' b) → Rep P τ 0 w F' x cs [] := by
  intro τ
  induction τ with
  | prod a b iha ihb =>
    intro n w F F' x cs O h he ho
    obtain ⟨cs1, cs2, O1, O2, rfl, rfl, h1, h2, r1, r2⟩ := h
    exact ⟨cs1, cs2, [], [], rfl, rfl, h1, h2, iha r1 he fun b hb => ho b (List.mem_append_left _ hb), ihb r2 he fun b hb => ho b (List.mem_append_right _ hb)⟩
  | st a ih => intro n w F F' x cs O h he ho; exact ih h he ho
  | int k => intro n w F F' x cs O h _ _; exact ⟨h.1, rfl⟩
  | bool => intro n w F F' x cs O h _ _; exact ⟨h.1, rfl⟩
  | str => intro n w F F' x cs O h _ _; exact ⟨h.1, rfl⟩
  | slice e ih =>
    intro n w F F' x cs O h he ho
    obtain ⟨a, cap, css, Os, rfl, hcap, hcl, hol, hr, hs⟩ := h
    have hmem : ∀ i (h2 : i < Os.length), ∀ b ∈ Os[i], b ∈ Os.flatten := fun i h2 b hb => List.mem_flatten.2 ⟨_, List.getElem_mem h2, hb⟩
    have hnil : ([] : List Nat) = (List.replicate x.length ([] : List Nat)).flatten := (flatten_nil fun y hy => (List.mem_replicate.1 hy).2).symm
    rcases hs with ⟨hn, rfl, hs⟩ | ⟨hn, hc0, rfl⟩ | ⟨hn, b, o, rfl, hat, hb, rfl⟩
    · refine ⟨a, cap, css, List.replicate x.length [], rfl, hcap, hcl, by simp, fun i h h1 h2 => ?_, .inl ⟨rfl, hnil, ?_⟩⟩
      · rw [List.getElem_replicate]
        exact ⟨ih (hr i h h1 (by omega)).1 he fun b hb => ho b (hmem i (by omega) b hb), (hr i h h1 (by omega)).2⟩
      · rcases hs with hs | ⟨b, o, rfl, hF, hat⟩
        · exact .inl hs
        · exact .inr ⟨b, o, rfl, he.sub b hF, hat⟩
    · refine ⟨a, cap, css, List.replicate x.length [], rfl, hcap, hcl, by simp, fun i h h1 h2 => absurd h (by omega), .inl ⟨rfl, hnil, .inl ?_⟩⟩
      exact List.eq_nil_of_length_eq_zero (by omega)
    · refine ⟨_, cap, css, List.replicate x.length [], rfl, hcap, hcl, by simp, fun i h h1 h2 => ?_, .inl ⟨rfl, hnil, .inr ⟨b, o, rfl, ho b (List.mem_cons_self ..), hat⟩⟩⟩
      rw [List.getElem_replicate]
      exact ⟨ih (hr i h h1 (by omega)).1 he fun b hb => ho b (List.mem_cons_of_mem _ (hmem i (by omega) b hb)), (hr i h h1 (by omega)).2⟩
  | cptr a ih =>
    intro n w F F' x cs O h he ho
    obtain ⟨b, o, cs', rfl, hF, hat, hl, hr, rfl⟩ := h
    exact ⟨b, o, cs', rfl, he.sub b hF, hat, hl, ih hr he (fun b hb => by cases hb), rfl⟩
  | fn a r _ _ =>
    intro n w F F' x cs O h he ho
    obtain ⟨rfl, f, first, cap, rfl, hk⟩ := h
    exact ⟨rfl, f, first, cap, rfl, fun w1 F1 h1 => hk w1 F1 (he.trans h1)⟩

end Go.Tom
