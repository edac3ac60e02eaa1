/- Contracts that are laid beside: of functions of the library that make texts. -/
import Derived.Test.YtomdhjdgcfcjdaaGreatDoorTomAQ
import Derived.Shelf.Strconv.Itoa3
import Derived.Shelf.Strings.OnBuilder
import Derived.Shelf.Strings.Repeat
import Derived.Lib.AppendIntMem
set_option linter.unusedVariables false
set_option linter.unusedSimpArgs false
namespace Go.Tom
open Go Go.RowKit Go.Shelf Go.Sort Go.Lib

theorem Out.below' {w w' : World} {F : Nat → Prop} (hlt : ∀ b, F b → b < w.heap.size) (hb : RowKit.Below w.heap.size w w') : Out w F w' F [] :=
  ⟨hb, fun _ h => h, fun b h => Nat.lt_of_lt_of_le (hlt b h) hb.size, fun _ h _ => h, List.nodup_nil, fun _ h => by cases h⟩

/-- A text, behind new blocks alone. -/
theorem res_str {P : Program} {w w' : World} {F : Nat → Prop} {s : ByteArray} {e : Ending} (hlt : ∀ b, F b → b < w.heap.size) (he : e = .returned (.string s)) (hb : RowKit.Below w.heap.size w w') :
    ∃ vr F' O, e = .returned (tupled vr) ∧ ResRep P w' F' [⟨0, .str, s⟩] vr O ∧ Out w F w' F' O :=
  ⟨[.string s], F, [], he, ⟨_, [], [_], [], [], rfl, rfl, rfl, ⟨rfl, rfl⟩, rfl, rfl⟩, Out.below' hlt hb⟩

theorem VS.one {τ : Ty} {v : Value} {cs : List Value} (h : VS τ v cs) (hs : τ.isSt = false) : cs = [v] := by
  cases τ <;> first | exact h | simp [Ty.isSt] at hs

theorem acall_Itoa {P : Program} {f : FuncId} {fn : Func} (hf : P.funcs[f]? = some fn) (hn : (fn.name == "runtime.NumGoroutine") = false) (hb : fn.body.isNone = false) (ht : tabs = [("internal/strconv.uint64pow10", .u64, Lib.pow10Tab)]) {n : Int}
    (h : ∀ w, Lib.TabIs P w "internal/strconv.uint64pow10" .u64 Lib.pow10Tab → Calls P f #[.int .i64 n] w fun e w' => e = .returned (.string ⟨(Lib.itoa n).toArray⟩) ∧ ∃ k os, w' = grow (w.drewN k) os) :
    ACall P f [⟨.int .i64, n⟩] [⟨0, .str, ⟨(Lib.itoa n).toArray⟩⟩] := by
  refine ⟨⟨fn, hf, hn, hb⟩, fun w F vs hlt hly ha => ?_⟩
  obtain ⟨v, vs', cs, rfl, h1, h2, rfl⟩ := ha
  have h1' := VS.one h1 rfl
  have h2' : cs = [.int .i64 n] := h2.1
  rw [h1'] at h2'
  simp only [List.cons.injEq, and_true] at h2'
  subst h2'
  refine (h w (hly.1 _ (by rw [ht]; exact List.mem_singleton.2 rfl)).1).mono fun e w' ⟨he, k, os, hw⟩ => ?_
  subst hw
  exact res_str hlt he (below_grow _ w (Nat.le_refl _) k os)

theorem acall_Repeat {P : Program} {f : FuncId} {fn : Func} (hf : P.funcs[f]? = some fn) (hn : (fn.name == "runtime.NumGoroutine") = false) (hb : fn.body.isNone = false) {s : ByteArray} {c : Int} (hc : 0 ≤ c)
    (h : ∀ w, Calls P f #[.string s, .int .i64 (c.toNat : Int)] w fun e w' => e = .returned (.string ⟨(Lib.repeatL s.data.toList c.toNat).toArray⟩) ∧ RowKit.Below w.heap.size w w') :
    ACall P f [⟨.str, s⟩, ⟨.int .i64, c⟩] [⟨0, .str, ⟨(Lib.repeatL s.data.toList c.toNat).toArray⟩⟩] := by
  refine ⟨⟨fn, hf, hn, hb⟩, fun w F vs hlt hly ha => ?_⟩
  obtain ⟨v, vs', cs, rfl, h1, h2, v2, vs2, cs2, rfl, h3, h4, rfl⟩ := ha
  have h1' := VS.one h1 rfl
  have h2' : cs = [.string s] := h2.1
  have h3' := VS.one h3 rfl
  have h4' : cs2 = [.int .i64 c] := h4.1
  rw [h1'] at h2'
  rw [h3'] at h4'
  simp only [List.cons.injEq, and_true] at h2' h4'
  subst h2'; subst h4'
  have hw := h w
  rw [Int.toNat_of_nonneg hc] at hw
  exact hw.mono fun e w' ⟨he, hw⟩ => res_str hlt he hw

theorem acall_Join {P : Program} {f : FuncId} {fn : Func} (hf : P.funcs[f]? = some fn) (hn : (fn.name == "runtime.NumGoroutine") = false) (hb : fn.body.isNone = false) {xs : List ByteArray} {sep : ByteArray}
    (h0 : ∀ (a : Option Addr) c w, Calls P f #[.slice a 0 c, .string sep] w fun e w' => e = .returned (.string ⟨#[]⟩) ∧ w' = w)
    (h : ∀ bk o c w, (∀ (j : Nat) x, xs[j]? = some x → w.cell? ⟨bk, o + j, none⟩ = some (.string x)) → bk < w.heap.size → xs.length ≤ c →
      Calls P f #[.slice (some ⟨bk, o, none⟩) xs.length c, .string sep] w fun e w' => e = .returned (.string ⟨(Lib.join (xs.map (·.data.toList)) sep.data.toList).toArray⟩) ∧ RowKit.Below w.heap.size w w') :
    ACall P f [⟨.slice .str, xs⟩, ⟨.str, sep⟩] [⟨0, .str, ⟨(Lib.join (xs.map (·.data.toList)) sep.data.toList).toArray⟩⟩] := by
  refine ⟨⟨fn, hf, hn, hb⟩, fun w F vs hlt hly ha => ?_⟩
  obtain ⟨v, vs', cs, rfl, h1, h2, v2, vs2, cs2, rfl, h3, h4, rfl⟩ := ha
  have h1' := VS.one h1 rfl
  have h3' := VS.one h3 rfl
  have h4' : cs2 = [.string sep] := h4.1
  rw [h3'] at h4'
  simp only [List.cons.injEq, and_true] at h4'
  subst h4'
  obtain ⟨ad, cap, css, Os, hcs, hcap, hcl, hol, hr, hs⟩ := h2
  rw [h1'] at hcs
  simp only [List.cons.injEq, and_true] at hcs
  subst hcs
  have hcl' : css.length = xs.length := hcl
  have hol' : Os.length = xs.length := hol
  rcases hs with ⟨_, _, rfl | ⟨b, o, rfl, hF, hat⟩⟩ | ⟨hn, _⟩ | ⟨hn, _⟩
  · refine (h0 ad cap w).mono fun e w' ⟨he, hw⟩ => ?_
    subst hw
    exact res_str hlt (by rw [he]; rfl) (Below.refl _ _)
  · refine (h b o cap w (fun j x hx => ?_) (hlt b hF) hcap).mono fun e w' ⟨he, hw⟩ => res_str hlt he hw
    obtain ⟨hj, rfl⟩ := List.getElem?_eq_some_iff.1 hx
    have hc : css[j]'(by omega) = [.string xs[j]] := (hr j hj (by omega) (by omega)).1.1
    have := hat j (by omega) 0 (by rw [hc]; exact Nat.zero_lt_one)
    simp only [Ty.sz, Nat.mul_one, Nat.add_zero, hc, List.getElem_cons_zero] at this
    exact this
  · exact absurd hn (by decide)
  · exact absurd hn (by decide)

theorem acall_Cut {P : Program} {f : FuncId} {fn : Func} (hf : P.funcs[f]? = some fn) (hn : (fn.name == "runtime.NumGoroutine") = false) (hb : fn.body.isNone = false) (hv : "internal/bytealg.MaxLen" ∈ seenVars) {g : Nat} (hg : P.globalNamed "internal/bytealg.MaxLen" = some g) {s sep a b : ByteArray} {c : Bool}
    (h : ∀ m w, w.cell? ⟨g, 0, none⟩ = some (.int .i64 m) → Calls P f #[.string s, .string sep] w fun e w' => e = .returned (.tuple #[.string a, .string b, .bool c]) ∧ ∃ n, w' = w.drewN n) :
    ACall P f [⟨.str, s⟩, ⟨.str, sep⟩] [⟨0, .str, a⟩, ⟨0, .str, b⟩, ⟨0, .bool, c⟩] := by
  refine ⟨⟨fn, hf, hn, hb⟩, fun w F vs hlt hly ha => ?_⟩
  obtain ⟨v, vs', cs, rfl, h1, h2, v2, vs2, cs2, rfl, h3, h4, rfl⟩ := ha
  have h1' := VS.one h1 rfl
  have h2' : cs = [.string s] := h2.1
  have h3' := VS.one h3 rfl
  have h4' : cs2 = [.string sep] := h4.1
  rw [h1'] at h2'
  rw [h3'] at h4'
  simp only [List.cons.injEq, and_true] at h2' h4'
  subst h2'; subst h4'
  obtain ⟨g', m, hg', hc, _⟩ := hly.2 _ hv
  obtain rfl := Option.some.inj (hg.symm.trans hg')
  refine (h m w hc).mono fun e w' ⟨he, n, hw⟩ => ?_
  subst hw
  have hb : RowKit.Below w.heap.size w (w.drewN n) := by
    have := below_grow _ w (Nat.le_refl _) n #[]
    rwa [grow_empty] at this
  refine ⟨[.string a, .string b, .bool c], F, [], he, ⟨_, _, [_], [], [], rfl, rfl, rfl, ⟨rfl, rfl⟩, _, _, [_], [], [], rfl, rfl, rfl, ⟨rfl, rfl⟩, _, _, [_], [], [], rfl, rfl, rfl, ⟨rfl, rfl⟩, rfl, rfl⟩, Out.below' hlt hb⟩
end Go.Tom
