/- The model's own operations on memory, as they run on what Rep says. -/
import Derived.Test.YtagcgcpapjidcaaTomG
set_option linter.unusedVariables false
set_option linter.unusedSimpArgs false
namespace Go.Tom
open Go

section
variable {P : Program} {w : World} {F : Nat → Prop}

theorem TyOk.agg {T : TypeId} {τ : Ty} (h : TyOk P T τ) : (isAgg T).run P w = .ok τ.isSt w := by
  cases τ with
  | int k => simp [isAgg, run_underlying h.int, Ty.isSt]
  | bool => simp [isAgg, run_underlying h.bool, Ty.isSt]
  | str => simp [isAgg, run_underlying h.str, Ty.isSt]
  | slice e => obtain ⟨E, hu, _⟩ := h.slice; simp [isAgg, run_underlying hu, Ty.isSt]
  | st a => obtain ⟨fs, hu, _⟩ := h.st; simp [isAgg, run_underlying hu, Ty.isSt]
  | fn a r => obtain ⟨x, y, z, hu⟩ := h.fn; simp [isAgg, run_underlying hu, Ty.isSt]
  | cptr a => obtain ⟨x, hu⟩ := h.cptr; simp [isAgg, run_underlying hu, Ty.isSt]
  | prod a b => simp [TyOk, okB] at h

theorem TyOk.size {T : TypeId} {τ : Ty} (h : TyOk P T τ) : (sizeOf T).run P w = .ok τ.sz w := by
  obtain ⟨i, hi, hs, _⟩ := h.info
  simp [sizeOf, typeInfo, hi, hs]

theorem TyOk.zeroV {T : TypeId} {τ : Ty} (h : TyOk P T τ) (hd : τ.data = true) : ∃ z, (zeroValue T).run P w = .ok z w ∧ VS τ z (zeroCells τ) := by
  obtain ⟨i, hi, _, _, hz⟩ := h.info
  obtain ⟨z, hz1, hz2⟩ := hz hd
  exact ⟨z, by simp [zeroValue, typeInfo, hi, hz1], hz2⟩

theorem TyOk.noProd {T : TypeId} {τ : Ty} (h : TyOk P T τ) : τ.isProd = false := by
  cases τ <;> first | rfl | simp [TyOk, okB] at h

theorem VS.cells {τ : Ty} {v : Value} {cs : List Value} {n : Nat} {x : τ.den} {O : List Nat} (h : VS τ v cs) (hr : Rep P τ n w F x cs O) : v.cells.toList = cs := by
  cases τ with
  | st a => have h' : v = .agg cs.toArray := h; rw [h']; simp [Value.cells]
  | int k => have h' : cs = [v] := h; rw [h'] at hr ⊢; have := hr.1; simp at this; rw [this]; rfl
  | bool => have h' : cs = [v] := h; rw [h'] at hr ⊢; have := hr.1; simp at this; rw [this]; rfl
  | str => have h' : cs = [v] := h; rw [h'] at hr ⊢; have := hr.1; simp at this; rw [this]; rfl
  | slice e => have h' : cs = [v] := h; rw [h'] at hr ⊢; obtain ⟨ad, cap, css, Os, hc, _⟩ := hr; simp at hc; rw [hc]; rfl
  | cptr a => have h' : cs = [v] := h; rw [h'] at hr ⊢; obtain ⟨b, o, cs', hc, _⟩ := hr; simp at hc; rw [hc]; rfl
  | fn a r => have h' : cs = [v] := h; rw [h'] at hr ⊢; obtain ⟨_, f, fi, ca, hc, _⟩ := hr; simp at hc; rw [hc]; rfl
  | prod a b =>
    have h' : cs = [v] := h
    have hl := hr.length
    rw [h'] at hl
    have := a.sz_pos
    have := b.sz_pos
    simp [Ty.sz] at hl
    omega

/-- A value is made of its cells. -/
theorem VS.mk {τ : Ty} (hp : τ.isProd = false) {cs : List Value} (hl : cs.length = τ.sz) : ∃ v, VS τ v cs := by
  cases τ with
  | prod a b => simp [Ty.isProd] at hp
  | st a => exact ⟨.agg cs.toArray, rfl⟩
  | _ =>
    match cs, hl with
    | [v], _ => exact ⟨v, rfl⟩
    | [], hl => simp [Ty.sz] at hl
    | _ :: _ :: _, hl => simp [Ty.sz] at hl

theorem add_at (b o j : Nat) : (⟨b, o, none⟩ : Addr).add j = ⟨b, o + j, none⟩ := by unfold Addr.add; split <;> simp_all

theorem run_loadVar {T : TypeId} {τ : Ty} (h : TyOk P T τ) {b o : Nat} {cs : List Value} (hat : At w b o cs) (hl : cs.length = τ.sz) : ∃ v, (loadVar T ⟨b, o, none⟩).run P w = .ok v w ∧ VS τ v cs := by
  by_cases hs : τ.isSt = true
  · cases τ <;> simp [Ty.isSt] at hs
    rename_i a
    refine ⟨.agg cs.toArray, ?_, rfl⟩
    have hc := run_loadCells_list (P := P) w ⟨b, o, none⟩ cs (fun j v hj => by
      obtain ⟨hlt, rfl⟩ := List.getElem?_eq_some_iff.1 hj
      rw [add_at]
      exact hat j hlt)
    simp [loadVar, h.agg, Ty.isSt, h.size, ← hl, hc]
  · have hs' : τ.isSt = false := by simpa using hs
    have h1 : τ.sz = 1 := by
      have := h.noProd
      cases τ <;> simp_all [Ty.isSt, Ty.isProd, Ty.sz]
    match cs, hl with
    | [v], _ =>
      have := hat 0 (by simp)
      simp only [Nat.add_zero, List.getElem_cons_zero] at this
      refine ⟨v, by simp [loadVar, h.agg, hs', this], ?_⟩
      cases τ <;> first | rfl | simp [Ty.isSt] at hs'
    | [], hl => rw [h1] at hl; simp at hl
    | _ :: _ :: _, hl => rw [h1] at hl; simp at hl

theorem run_part {T : TypeId} {τ : Ty} (h : TyOk P T τ) {xs : Array Value} {pre c post : List Value} (hx : xs.toList = pre ++ (c ++ post)) (hl : c.length = τ.sz) {off : Nat} (ho : pre.length = off) : ∃ v, (part T xs off).run P w = .ok v w ∧ VS τ v c := by
  by_cases hs : τ.isSt = true
  · cases τ <;> simp [Ty.isSt] at hs
    rename_i a
    refine ⟨.agg c.toArray, ?_, rfl⟩
    have : xs.extract off (off + c.length) = c.toArray := by
      apply Array.toList_inj.1
      simp [hx, ← ho]
    simp [part, h.agg, Ty.isSt, h.size, ← hl, this]
  · have hs' : τ.isSt = false := by simpa using hs
    have h1 : τ.sz = 1 := by
      have := h.noProd
      cases τ <;> simp_all [Ty.isSt, Ty.isProd, Ty.sz]
    match c, hl with
    | [v], _ =>
      have : xs[off]? = some v := by
        rw [← Array.getElem?_toList, hx, ← ho]
        simp
      refine ⟨v, by simp [part, h.agg, hs', this], ?_⟩
      cases τ <;> first | rfl | simp [Ty.isSt] at hs'
    | [], hl => rw [h1] at hl; simp at hl
    | _ :: _ :: _, hl => rw [h1] at hl; simp at hl

theorem drop_get {α : Type} {fs : Array α} {i : Nat} {d : α} (h : fs[i]? = some d) : fs.toList.drop i = d :: fs.toList.drop (i + 1) := by
  obtain ⟨hlt, rfl⟩ := Array.getElem?_eq_some_iff.1 h
  rw [List.drop_eq_getElem_cons (by simpa using hlt)]
  simp

/-- '==' of flat values. -/
theorem run_equalIn_flat : ∀ {τ : Ty}, τ.flat = true →
    (∀ {T : TypeId} {x y : τ.den} {v v' : Value} {cs cs' : List Value} {d : Nat}, TyOk P T τ → τ.nest ≤ d → VS τ v cs → VS τ v' cs' → Rep P τ 0 w F x cs [] → Rep P τ 0 w F y cs' [] → (Op.equalIn (d + 1) T v v').run P w = .ok (τ.beq x y) w) ∧
    (∀ {fs : Array Field} {i off : Nat} {x y : τ.den} {xs ys : Array Value} {pre pre' cs cs' : List Value} {d : Nat}, (okB P τ).2 fs i off = true → τ.nest ≤ d → xs.toList = pre ++ cs → ys.toList = pre' ++ cs' → pre.length = off → pre'.length = off →
      Rep P τ 0 w F x cs [] → Rep P τ 0 w F y cs' [] → (Op.eqFields (d + 1) xs ys (fs.toList.drop i)).run P w = .ok (τ.beq x y) w) := by
  intro τ
  have leaf : ∀ {τ : Ty}, τ.isProd = false → (∀ {T : TypeId} {x y : τ.den} {v v' : Value} {cs cs' : List Value} {d : Nat}, TyOk P T τ → τ.nest ≤ d → VS τ v cs → VS τ v' cs' → Rep P τ 0 w F x cs [] → Rep P τ 0 w F y cs' [] → (Op.equalIn (d + 1) T v v').run P w = .ok (τ.beq x y) w) →
      (∀ {fs : Array Field} {i off : Nat} {x y : τ.den} {xs ys : Array Value} {pre pre' cs cs' : List Value} {d : Nat}, (okB P τ).2 fs i off = true → τ.nest ≤ d → xs.toList = pre ++ cs → ys.toList = pre' ++ cs' → pre.length = off → pre'.length = off →
      Rep P τ 0 w F x cs [] → Rep P τ 0 w F y cs' [] → (Op.eqFields (d + 1) xs ys (fs.toList.drop i)).run P w = .ok (τ.beq x y) w) := by
    intro τ hp hE fs i off x y xs ys pre pre' cs cs' d ho hd hxs hys hpl hpl' hx hy
    rw [okB_leaf _ hp] at ho
    unfold leafB at ho
    cases hf : fs[i]? with
    | none => rw [hf] at ho; simp at ho
    | some f =>
      rw [hf] at ho
      simp only [Bool.and_eq_true, beq_iff_eq, bne_iff_ne, ne_eq] at ho
      obtain ⟨⟨⟨h1, h2⟩, h3⟩, h4⟩ := ho
      have hT : TyOk P f.type τ := h2
      rw [drop_get hf]
      have hend : fs.toList.drop (i + 1) = [] := List.drop_eq_nil_of_le (by simp [h4])
      obtain ⟨v, p1, p2⟩ := run_part (w := w) hT (xs := xs) (pre := pre) (c := cs) (post := []) (by simpa using hxs) hx.length (off := f.offset) (by rw [h1]; exact hpl)
      obtain ⟨v', q1, q2⟩ := run_part (w := w) hT (xs := ys) (pre := pre') (c := cs') (post := []) (by simpa using hys) hy.length (off := f.offset) (by rw [h1]; exact hpl')
      have he := hE hT hd p2 q2 hx hy
      rw [hend]
      simp only [Op.eqFields, h3, ne_eq, not_false_eq_true, if_true, Sem.run_bind, p1, q1, he, Result.andThen_ok]
      cases τ.beq x y <;> simp
  induction τ with
  | int k =>
    intro _
    have hE : ∀ {T : TypeId} {x y : Int} {v v' : Value} {cs cs' : List Value} {d : Nat}, TyOk P T (.int k) → (Ty.int k).nest ≤ d → VS (.int k) v cs → VS (.int k) v' cs' → Rep P (.int k) 0 w F x cs [] → Rep P (.int k) 0 w F y cs' [] → (Op.equalIn (d + 1) T v v').run P w = .ok ((Ty.int k).beq x y) w := by
      intro T x y v v' cs cs' d hT _ h1 h2 h3 h4
      have e1 : cs = [v] := h1
      have e2 : cs' = [v'] := h2
      have e3 := h3.1
      have e4 := h4.1
      rw [e1] at e3; rw [e2] at e4
      simp only [List.cons.injEq, and_true] at e3 e4
      subst e3; subst e4
      simp [Op.equalIn, run_underlying hT.int, Ty.beq]
    exact ⟨hE, leaf rfl hE⟩
  | bool =>
    intro _
    have hE : ∀ {T : TypeId} {x y : Bool} {v v' : Value} {cs cs' : List Value} {d : Nat}, TyOk P T .bool → (Ty.bool).nest ≤ d → VS .bool v cs → VS .bool v' cs' → Rep P .bool 0 w F x cs [] → Rep P .bool 0 w F y cs' [] → (Op.equalIn (d + 1) T v v').run P w = .ok ((Ty.bool).beq x y) w := by
      intro T x y v v' cs cs' d hT _ h1 h2 h3 h4
      have e1 : cs = [v] := h1
      have e2 : cs' = [v'] := h2
      have e3 := h3.1
      have e4 := h4.1
      rw [e1] at e3; rw [e2] at e4
      simp only [List.cons.injEq, and_true] at e3 e4
      subst e3; subst e4
      simp [Op.equalIn, run_underlying hT.bool, Ty.beq]
    exact ⟨hE, leaf rfl hE⟩
  | str =>
    intro _
    have hE : ∀ {T : TypeId} {x y : ByteArray} {v v' : Value} {cs cs' : List Value} {d : Nat}, TyOk P T .str → (Ty.str).nest ≤ d → VS .str v cs → VS .str v' cs' → Rep P .str 0 w F x cs [] → Rep P .str 0 w F y cs' [] → (Op.equalIn (d + 1) T v v').run P w = .ok ((Ty.str).beq x y) w := by
      intro T x y v v' cs cs' d hT _ h1 h2 h3 h4
      have e1 : cs = [v] := h1
      have e2 : cs' = [v'] := h2
      have e3 := h3.1
      have e4 := h4.1
      rw [e1] at e3; rw [e2] at e4
      simp only [List.cons.injEq, and_true] at e3 e4
      subst e3; subst e4
      simp [Op.equalIn, run_underlying hT.str, Ty.beq]
    exact ⟨hE, leaf rfl hE⟩
  | st a ih =>
    intro hf
    obtain ⟨_, ihF⟩ := ih hf
    have hE : ∀ {T : TypeId} {x y : a.den} {v v' : Value} {cs cs' : List Value} {d : Nat}, TyOk P T (.st a) → (Ty.st a).nest ≤ d → VS (.st a) v cs → VS (.st a) v' cs' → Rep P (.st a) 0 w F x cs [] → Rep P (.st a) 0 w F y cs' [] → (Op.equalIn (d + 1) T v v').run P w = .ok ((Ty.st a).beq x y) w := by
      intro T x y v v' cs cs' d hT hd h1 h2 h3 h4
      have e1 : v = .agg cs.toArray := h1
      have e2 : v' = .agg cs'.toArray := h2
      obtain ⟨fs, hu, hfs, hst, _⟩ := hT.st
      have hfo : P.fieldsOf T = fs := by simp [Program.fieldsOf, hu]
      subst e1; subst e2
      rw [run_equalIn_struct w d T _ _ (by rw [hfo]; exact hu) hst, hfo]
      obtain ⟨d', rfl⟩ : ∃ d', d = d' + 1 := ⟨d - 1, by simp only [Ty.nest] at hd; omega⟩
      have := ihF (fs := fs) (i := 0) (off := 0) (x := x) (y := y) (xs := cs.toArray) (ys := cs'.toArray) (pre := []) (pre' := []) (cs := cs) (cs' := cs') (d := d') hfs (by simp only [Ty.nest] at hd; omega) (by simp) (by simp) rfl rfl h3 h4
      show _ = Result.ok (a.beq x y) w
      simpa using this
    exact ⟨hE, leaf rfl hE⟩
  | prod a b iha ihb =>
    intro hf
    simp only [Ty.flat, Bool.and_eq_true] at hf
    obtain ⟨ihE, _⟩ := iha hf.1
    obtain ⟨_, ihF⟩ := ihb hf.2
    refine ⟨fun hT => by simp [TyOk, okB] at hT, ?_⟩
    intro fs i off x y xs ys pre pre' cs cs' d ho hd hxs hys hpl hpl' hx hy
    obtain ⟨c1, c2, O1, O2, rfl, hO, l1, l2, r1, r2⟩ := hx
    obtain ⟨c1', c2', O1', O2', rfl, hO', l1', l2', r1', r2'⟩ := hy
    have hz1 := r1.zero_nil; have hz2 := r2.zero_nil; have hz1' := r1'.zero_nil; have hz2' := r2'.zero_nil
    subst hz1; subst hz2; subst hz1'; subst hz2'
    simp only [okB, Bool.and_eq_true] at ho
    obtain ⟨ho1, ho2⟩ := ho
    simp only [Ty.nest] at hd
    cases hfi : fs[i]? with
    | none => rw [hfi] at ho1; simp at ho1
    | some f =>
      rw [hfi] at ho1
      simp only [Bool.and_eq_true, beq_iff_eq, bne_iff_ne, ne_eq] at ho1
      obtain ⟨⟨h1, h2⟩, h3⟩ := ho1
      have hT : TyOk P f.type a := h2
      rw [drop_get hfi]
      obtain ⟨v, p1, p2⟩ := run_part (w := w) hT (xs := xs) (pre := pre) (c := c1) (post := c2) hxs l1 (off := f.offset) (by rw [h1]; exact hpl)
      obtain ⟨v', q1, q2⟩ := run_part (w := w) hT (xs := ys) (pre := pre') (c := c1') (post := c2') hys l1' (off := f.offset) (by rw [h1]; exact hpl')
      have he := ihE hT (by omega) p2 q2 r1 r1' (d := d)
      have hrest := ihF (fs := fs) (i := i + 1) (off := off + a.sz) (x := x.2) (y := y.2) (xs := xs) (ys := ys) (pre := pre ++ c1) (pre' := pre' ++ c1') (cs := c2) (cs' := c2') (d := d) ho2 (by omega) (by simpa using hxs) (by simpa using hys) (by simp [hpl, l1]) (by simp [hpl', l1']) r2 r2'
      simp only [Op.eqFields, h3, ne_eq, not_false_eq_true, if_true, Sem.run_bind, p1, q1, he, Result.andThen_ok]
      cases hb : a.beq x.1 y.1
      · simp [Ty.beq, hb]
      · simp [Ty.beq, hb, hrest]
  | slice e _ => intro hf; simp [Ty.flat] at hf
  | cptr e _ => intro hf; simp [Ty.flat] at hf
  | fn e r _ _ => intro hf; simp [Ty.flat] at hf

end
end Go.Tom
