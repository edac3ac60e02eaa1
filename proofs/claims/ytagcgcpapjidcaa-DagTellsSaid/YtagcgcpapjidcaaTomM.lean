/- Each operation does what evalQ says: struct literals. -/
import Derived.Test.YtagcgcpapjidcaaTomL
set_option linter.unusedVariables false
set_option linter.unusedSimpArgs false
namespace Go.Tom
open Go

theorem fld_apart : ∀ {a a1 a2 : Ty} {i j : Nat}, fldTy a i = some a1 → fldTy a j = some a2 → i < j → fldOff a i + a1.sz ≤ fldOff a j := by
  intro a
  induction a with
  | prod a b iha ihb =>
    intro a1 a2 i j h1 h2 hlt
    cases j with
    | zero => omega
    | succ j =>
      cases i with
      | zero => simp only [fldTy, Option.some.injEq] at h1; subst h1; simp [fldOff]
      | succ i => have := ihb h1 h2 (by omega); simp only [fldOff]; omega
  | _ =>
    intro a1 a2 i j h1 h2 hlt
    cases j with
    | zero => omega
    | succ j => simp [fldTy] at h2

theorem zeroCells_seg {a a1 : Ty} {i : Nat} (hd : a.data = true) (h : fldTy a i = some a1) : ((zeroCells a).drop (fldOff a i)).take a1.sz = zeroCells a1 := by
  have hz : ∀ {b : Ty}, b.data = true → (zeroCells b).length = b.sz := fun {b} hb => (Rep.zero (P := default) (n := 0) (w := default) (F := fun _ => False) hb).length
  induction a generalizing i with
  | prod a b iha ihb =>
    simp only [Ty.data, Bool.and_eq_true] at hd
    cases i with
    | zero =>
      simp only [fldTy, Option.some.injEq] at h
      subst h
      simp only [fldOff, List.drop_zero, zeroCells]
      rw [List.take_append_of_le_length (by rw [hz hd.1]; exact Nat.le_refl _), List.take_of_length_le (by rw [hz hd.1]; exact Nat.le_refl _)]
    | succ i =>
      simp only [fldOff, zeroCells]
      rw [List.drop_append, List.drop_eq_nil_of_le (by rw [hz hd.1]; omega), hz hd.1, List.nil_append]
      rw [show a.sz + fldOff b i - a.sz = fldOff b i from by omega]
      exact ihb hd.2 h
  | _ =>
    cases i <;> simp only [fldTy, Option.some.injEq, reduceCtorEq] at h
    subst h
    simp only [fldOff, List.drop_zero]
    exact List.take_of_length_le (by rw [hz hd]; exact Nat.le_refl _)

/-- A field's cells. -/
def seg (a : Ty) (i : Nat) (a1 : Ty) (cs : List Value) : List Value := (cs.drop (fldOff a i)).take a1.sz

theorem seg_put {a a1 a2 : Ty} {i j : Nat} {cs : List Value} {vs : List Value} (h1 : fldTy a i = some a1) (h2 : fldTy a j = some a2) (hl : vs.length = a1.sz) (hc : cs.length = a.sz) :
    seg a j a2 (cs.take (fldOff a i) ++ vs ++ cs.drop (fldOff a i + a1.sz)) = if i = j then vs else seg a j a2 cs := by
  have hi := fld_in h1
  have hj := fld_in h2
  have hmin : min (fldOff a i) cs.length = fldOff a i := by omega
  have hmin' : min (fldOff a i) cs.length ≤ fldOff a i := by omega
  by_cases hij : i = j
  · subst hij
    rw [h1] at h2
    obtain rfl := Option.some.inj h2
    simp only [seg, if_true]
    rw [List.append_assoc, List.drop_append, List.drop_eq_nil_of_le (by simp; omega)]
    simp only [List.length_take, hmin, Nat.sub_self, List.drop_zero, List.nil_append]
    rw [List.take_append_of_le_length (by omega), List.take_of_length_le (by omega)]
  · rw [if_neg hij]
    have hlen : (cs.take (fldOff a i) ++ vs ++ cs.drop (fldOff a i + a1.sz)).length = cs.length := by simp; omega
    apply List.ext_getElem?
    intro k
    simp only [seg, List.getElem?_take, List.getElem?_drop]
    by_cases hk : k < a2.sz
    · simp only [hk, if_true]
      rcases Nat.lt_or_gt_of_ne hij with hlt | hlt
      · have := fld_apart h1 h2 hlt
        rw [List.getElem?_append_right (by simp; omega)]
        simp only [List.length_append, List.length_take, hmin, hl, List.getElem?_drop]
        congr 1
        omega
      · have := fld_apart h2 h1 hlt
        rw [List.append_assoc, List.getElem?_append_left (by simp; omega)]
        rw [List.getElem?_take_of_lt (by omega)]
    · simp [hk]

theorem any_beq {i : Nat} : ∀ {l : List Nat}, l.any (Nat.beq i) = true ↔ i ∈ l
  | [] => by simp
  | j :: l => by
    simp only [List.any_cons, Bool.or_eq_true, List.mem_cons, any_beq (l := l)]
    constructor
    · rintro (h | h)
      · exact .inl (Nat.eq_of_beq_eq_true h)
      · exact .inr h
    · rintro (h | h)
      · exact .inl (by subst h; exact Nat.beq_refl _)
      · exact .inr h

section
variable {P : Program} {N : Nat} {w0 w : World} {F0 F : Nat → Prop} {G : Nat × Bool → Bool} {e : Nat → S} {a : Act} {O : Nat → List Nat}

theorem fill_struct {b : Ty} {place : Nat → Option (Nat × Nat)} (hpl : ∀ i b1, fldTy b i = some b1 → place i = some (fldOff b i, b1.sz)) : ∀ {vs : List (Nat × Value)} {cells : Array Value}, cells.size = b.sz → distinct (vs.map (·.1)) = true →
    (∀ q ∈ vs, ∃ b1, fldTy b q.1 = some b1 ∧ q.2.cells.size = b1.sz) →
    ∃ c', Instr.fill place cells vs = some c' ∧ c'.size = b.sz ∧ ∀ j b2, fldTy b j = some b2 → seg b j b2 c'.toList = (match vs.find? fun q => Nat.beq q.1 j with | some q => q.2.cells.toList | none => seg b j b2 cells.toList)
  | [], cells, hs, _, _ => ⟨cells, rfl, hs, fun j b2 h => rfl⟩
  | (i, v) :: vs, cells, hs, hd, hv => by
    obtain ⟨b1, h1, h2⟩ := hv (i, v) (List.mem_cons_self ..)
    simp only [List.map_cons, distinct, Bool.and_eq_true, Bool.not_eq_true'] at hd
    have hin := fld_in h1
    simp only at hin h1 h2
    obtain ⟨c1, p1, p2⟩ := fill_step (place := place) (cells := cells) (i := i) (v := v) (rest := vs) (hpl i b1 h1) h2 (by omega)
    have hc1 : c1.size = b.sz := by
      rw [← Array.length_toList, p2]; simp [h2]; omega
    obtain ⟨c', q1, q2, q3⟩ := fill_struct hpl hc1 hd.2 (fun q hq => hv q (List.mem_cons_of_mem _ hq))
    refine ⟨c', by rw [p1]; exact q1, q2, fun j b2 hj => ?_⟩
    rw [q3 j b2 hj]
    have hni : i ∉ vs.map (·.1) := fun hc => by rw [any_beq.2 hc] at hd; simp at hd
    simp only [List.find?_cons]
    by_cases hij : Nat.beq i j = true
    · have hij' := Nat.eq_of_beq_eq_true hij
      subst hij'
      simp only [hij]
      have hnf : vs.find? (fun q => Nat.beq q.1 i) = none := by
        rw [List.find?_eq_none]
        intro q hq hc
        have := Nat.eq_of_beq_eq_true hc
        exact hni (List.mem_map.2 ⟨q, hq, this⟩)
      rw [hnf]
      simp only
      rw [p2, seg_put h1 hj (by simp [h2]) (by simp [hs]), if_pos rfl]
    · simp only [Bool.not_eq_true] at hij
      simp only [hij]
      cases hf : vs.find? fun q => Nat.beq q.1 j with
      | some q => rfl
      | none =>
        have hne : i ≠ j := fun hc => by subst hc; rw [Nat.beq_refl] at hij; simp at hij
        simp only
        rw [p2, seg_put h1 hj (by simp [h2]) (by simp [hs]), if_neg hne]

theorem evPart_rep (h : Fr P N w0 F0 G e a.tmps w F O) {ps : List (Nat × RS)} {c0 : List Value} {τ : Ty} {i : Nat} {x : τ.den} (hx : evPart τ i ps = some x)
    (hseg : match ps.find? fun q => Nat.beq q.1 i with
      | some q => ∃ v, RSOk P G w F e a O q.2 v ∧ v.cells.toList = c0
      | none => c0 = zeroCells τ) : Rep P τ 0 w F x c0 [] := by
  unfold evPart at hx
  cases hf : ps.find? fun q => Nat.beq q.1 i with
  | none =>
    rw [hf] at hx hseg
    simp only at hx hseg
    split at hx
    · rename_i hd
      simp only [Option.some.injEq] at hx
      subst hx
      rw [hseg]
      exact Rep.zero hd
    · simp at hx
  | some q =>
    rw [hf] at hx hseg
    simp only at hx hseg
    obtain ⟨v, hv, hcs⟩ := hseg
    split at hx
    · rename_i t rr hq
      rw [hq] at hv
      obtain ⟨⟨Or, ⟨_, hrep⟩, _⟩, _⟩ := hv
      cases τ <;> simp only [reduceCtorEq, Option.some.injEq] at hx
      subst hx
      rw [← hcs, hrep]
      exact ⟨none, 0, [], [], rfl, Nat.le_refl _, rfl, rfl, fun i hi => absurd hi (by simp), .inl ⟨rfl, rfl, .inl rfl⟩⟩
    · split at hx
      · rename_i t hk
        have := cast?_eq hx
        subst this
        obtain ⟨c, g1, g2⟩ := rdk_sound h hv hk
        have hc : v.cells.toList = c := g1.cells g2
        rw [← hcs, hc]
        exact g2
      · simp at hx

/-- What a struct literal's parts make. -/
theorem buildSt_rep (h : Fr P N w0 F0 G e a.tmps w F O) {ps : List (Nat × RS)} {cs : List Value} : ∀ {b : Ty} {i off : Nat} {x : b.den}, evBuildSt b i ps = some x → off + b.sz ≤ cs.length →
    (∀ f b1, fldTy b f = some b1 → (match ps.find? fun q => Nat.beq q.1 (i + f) with
      | some q => ∃ v, RSOk P G w F e a O q.2 v ∧ v.cells.toList = (cs.drop (off + fldOff b f)).take b1.sz
      | none => (cs.drop (off + fldOff b f)).take b1.sz = zeroCells b1)) →
    Rep P b 0 w F x ((cs.drop off).take b.sz) [] := by
  intro b
  induction b with
  | prod a1 b1 iha ihb =>
    intro i off x hx hlen hseg
    simp only [evBuildSt] at hx
    split at hx
    · rename_i x1 x2 e1 e2
      simp only [Option.some.injEq] at hx
      subst hx
      simp only [Ty.sz] at hlen
      have r1 : Rep P a1 0 w F x1 ((cs.drop off).take a1.sz) [] := evPart_rep h e1 (by
        have := hseg 0 a1 rfl
        simpa [fldOff] using this)
      have r2 : Rep P b1 0 w F x2 ((cs.drop (off + a1.sz)).take b1.sz) [] := ihb e2 (by omega) fun f c hf => by
        have := hseg (f + 1) c hf
        simp only [fldOff] at this
        rw [show i + 1 + f = i + (f + 1) from by omega, show off + a1.sz + fldOff b1 f = off + (a1.sz + fldOff b1 f) from by omega]
        exact this
      refine ⟨_, _, [], [], ?_, rfl, by simp; omega, by simp; omega, r1, r2⟩
      simp only [Ty.sz]
      rw [List.take_add, List.drop_drop]
    · simp at hx
  | int k => intro i off x hx hlen hseg; exact evPart_rep h hx (by simpa [fldOff] using hseg 0 _ rfl)
  | bool => intro i off x hx hlen hseg; exact evPart_rep h hx (by simpa [fldOff] using hseg 0 _ rfl)
  | str => intro i off x hx hlen hseg; exact evPart_rep h hx (by simpa [fldOff] using hseg 0 _ rfl)
  | slice k _ => intro i off x hx hlen hseg; exact evPart_rep h hx (by simpa [fldOff] using hseg 0 _ rfl)
  | st k _ => intro i off x hx hlen hseg; exact evPart_rep h hx (by simpa [fldOff] using hseg 0 _ rfl)
  | cptr k _ => intro i off x hx hlen hseg; exact evPart_rep h hx (by simpa [fldOff] using hseg 0 _ rfl)
  | fn k r _ _ => intro i off x hx hlen hseg; exact evPart_rep h hx (by simpa [fldOff] using hseg 0 _ rfl)

theorem run_mapM {α β : Type} {g : α → Sem β} {r : α → β} : ∀ {l : List α}, (∀ x ∈ l, (g x).run P w = .ok (r x) w) → (l.mapM g).run P w = .ok (l.map r) w
  | [], _ => by simp
  | x :: l, h => by
    rw [List.mapM_cons]
    simp [h x (List.mem_cons_self ..), run_mapM fun y hy => h y (List.mem_cons_of_mem _ hy)]

/-- Every field of a struct is one of the Ty's. -/
theorem okB_all : ∀ {b : Ty} {fs : Array Field} {i off : Nat}, (okB P b).2 fs i off = true → ∀ j, i ≤ j → j < fs.size → ∃ b1, fldTy b (j - i) = some b1 := by
  intro b
  have leaf : ∀ {τ : Ty} {fs : Array Field} {i off : Nat}, leafB (okB P τ).1 fs i off = true → fs.size = i + 1 := by
    intro τ fs i off h
    unfold leafB at h
    cases hf : fs[i]? with
    | none => rw [hf] at h; simp at h
    | some d => rw [hf] at h; simp at h; exact h.2
  induction b with
  | prod a1 b1 iha ihb =>
    intro fs i off h j hij hj
    simp only [okB, Bool.and_eq_true] at h
    by_cases he : j = i
    · subst he; exact ⟨a1, by simp [fldTy]⟩
    · obtain ⟨b2, hb⟩ := ihb h.2 j (by omega) hj
      refine ⟨b2, ?_⟩
      rw [show j - i = (j - (i + 1)) + 1 from by omega]
      exact hb
  | _ =>
    intro fs i off h j hij hj
    rw [okB_leaf _ rfl] at h
    have := leaf h
    rw [show j - i = 0 from by omega]
    exact ⟨_, rfl⟩

theorem PartsOk.find {ps : List (Nat × RS)} {vs : List (Nat × Value)} (h : PartsOk P G w F e a O ps vs) (i : Nat) : (match ps.find? fun q => Nat.beq q.1 i with
    | some q => ∃ v, RSOk P G w F e a O q.2 v ∧ (vs.find? fun q => Nat.beq q.1 i) = some (q.1, v)
    | none => (vs.find? fun q => Nat.beq q.1 i) = none) := by
  induction ps generalizing vs with
  | nil => have hv : vs = [] := h; subst hv; rfl
  | cons q ps ih =>
    obtain ⟨v, vs', rfl, hv, h⟩ := h
    simp only [List.find?_cons]
    by_cases hi : Nat.beq q.1 i = true
    · simp only [hi]
      exact ⟨v, hv, rfl⟩
    · simp only [Bool.not_eq_true] at hi
      simp only [hi]
      exact ih h

theorem PartsOk.keys {ps : List (Nat × RS)} {vs : List (Nat × Value)} (h : PartsOk P G w F e a O ps vs) : vs.map (·.1) = ps.map (·.1) := by
  induction ps generalizing vs with
  | nil => have hv : vs = [] := h; subst hv; rfl
  | cons q ps ih =>
    obtain ⟨v, vs', rfl, hv, h⟩ := h
    simp [ih h]

theorem find_distinct {β : Type} : ∀ {vs : List (Nat × β)}, distinct (vs.map (·.1)) = true → ∀ q ∈ vs, (vs.find? fun p => Nat.beq p.1 q.1) = some q
  | [], _, q, hq => by cases hq
  | p :: vs, hd, q, hq => by
    simp only [List.map_cons, distinct, Bool.and_eq_true, Bool.not_eq_true'] at hd
    rw [List.find?_cons]
    rcases List.mem_cons.1 hq with rfl | hq
    · simp [Nat.beq_refl]
    · by_cases hb : Nat.beq p.1 q.1 = true
      · have := Nat.eq_of_beq_eq_true hb
        have hm : p.1 ∈ vs.map (·.1) := by rw [this]; exact List.mem_map_of_mem hq
        rw [any_beq.2 hm] at hd
        simp at hd
      · simp only [Bool.not_eq_true] at hb
        simp only [hb]
        exact find_distinct hd.2 q hq

theorem evBuildSt_part {ps : List (Nat × RS)} : ∀ {b : Ty} {i : Nat} {x : b.den} {f : Nat} {b1 : Ty}, evBuildSt b i ps = some x → fldTy b f = some b1 → ∃ y, evPart b1 (i + f) ps = some y := by
  intro b
  induction b with
  | prod a1 b1 iha ihb =>
    intro i x f c hx hf
    simp only [evBuildSt] at hx
    split at hx
    · rename_i x1 x2 e1 e2
      cases f with
      | zero => simp only [fldTy, Option.some.injEq] at hf; subst hf; exact ⟨x1, e1⟩
      | succ f =>
        obtain ⟨y, hy⟩ := ihb e2 hf
        exact ⟨y, by rw [← hy]; congr 1; omega⟩
    · simp at hx
  | _ =>
    intro i x f c hx hf
    cases f <;> simp only [fldTy, Option.some.injEq, reduceCtorEq] at hf
    subst hf
    exact ⟨x, hx⟩

theorem evPart_size (h : Fr P N w0 F0 G e a.tmps w F O) {ps : List (Nat × RS)} {τ : Ty} {i : Nat} {y : τ.den} (hy : evPart τ i ps = some y) {q : Nat × RS} (hq : (ps.find? fun p => Nat.beq p.1 i) = some q) {v : Value} (hv : RSOk P G w F e a O q.2 v) : v.cells.size = τ.sz := by
  have := evPart_rep h hy (c0 := v.cells.toList) (by rw [hq]; exact ⟨v, hv, rfl⟩)
  have := this.length
  simpa using this

theorem evBuild_sound (h : Fr P N w0 F0 G e a.tmps w F O) {tys : Tys} (ht : tys.ok P = true) {T : TypeId} {b : Ty} (hT : tyAt tys T = some (.st b)) (hd : b.data = true)
    {ps : List (Nat × RS)} {vs : List (Nat × Value)} (hp : PartsOk P G w F e a O ps vs) (hdis : distinct (ps.map (·.1)) = true) (hin : ∀ q ∈ ps, (fldTy b q.1).isSome = true) {x : b.den} (hb : evBuildSt b 0 ps = some x) :
    Yld P w F G e a (Instr.build T vs.toArray) (.v 0 (.st b) x) := by
  have hok := tyAt_ok ht hT
  obtain ⟨fs, hu, hfs, _⟩ := hok.st
  obtain ⟨z, hz1, hz2⟩ := hok.zeroV (w := w) (show (Ty.st b).data = true from hd)
  have hz2' : z = .agg (zeroCells b).toArray := hz2
  subst hz2'
  have hzrep : Rep P b 0 w F b.zero (zeroCells b) [] := Rep.zero hd
  have hkeys := hp.keys
  have hdv : distinct (vs.map (·.1)) = true := by rw [hkeys]; exact hdis
  -- each part is as wide as its field
  have hpart : ∀ q ∈ vs, ∃ b1, fldTy b q.1 = some b1 ∧ q.2.cells.size = b1.sz := by
    intro q hq
    have hk : q.1 ∈ ps.map (·.1) := by rw [← hkeys]; exact List.mem_map_of_mem hq
    obtain ⟨r, hr, hrq⟩ := List.mem_map.1 hk
    obtain ⟨b1, hb1⟩ := Option.isSome_iff_exists.1 (hin r hr)
    rw [hrq] at hb1
    refine ⟨b1, hb1, ?_⟩
    have hf1 := find_distinct hdis r hr
    rw [hrq] at hf1
    have := hp.find q.1
    rw [hf1] at this
    simp only at this
    obtain ⟨v, hv, hfv⟩ := this
    rw [find_distinct hdv q hq] at hfv
    have hv2 : q.2 = v := by have := Option.some.inj hfv; rw [this]
    obtain ⟨y, hy⟩ := evBuildSt_part hb hb1
    rw [Nat.zero_add] at hy
    rw [hv2]
    exact evPart_size h hy hf1 hv
  -- the places of the fields
  let pl : Array (Nat × Nat) := fs.map fun d => (d.offset, P.cellsOf d.type)
  have hpl : ∀ i b1, fldTy b i = some b1 → pl[i]? = some (fldOff b i, b1.sz) := by
    intro i b1 hi
    obtain ⟨d, k1, k2, k3, _⟩ := okB_fld hfs hi
    rw [Nat.zero_add] at k1
    rw [Nat.zero_add] at k2
    obtain ⟨inf, g1, g2, _⟩ := k3.info
    simp [pl, k1, k2, Program.cellsOf, g1, g2]
  have hmap : (fs.mapM fun (f : Field) => (Prod.mk f.offset <$> sizeOf f.type : Sem (Nat × Nat))).run P w = .ok pl w := by
    rw [Array.mapM_eq_mapM_toList]
    rw [Sem.run_map, run_mapM (r := fun d => (d.offset, P.cellsOf d.type))]
    · simp only [Result.andThen_ok, pl]
      congr 1
      apply Array.toList_inj.1
      simp
    · intro d hd'
      obtain ⟨j, hj, rfl⟩ := List.getElem_of_mem hd'
      obtain ⟨b1, hb1⟩ := okB_all hfs j (Nat.zero_le _) (by simpa using hj)
      rw [Nat.sub_zero] at hb1
      obtain ⟨d', k1, k2, k3, _⟩ := okB_fld hfs hb1
      rw [Nat.zero_add] at k1
      have hd2 : fs.toList[j] = d' := by
        have : fs[j]? = some fs.toList[j] := by simp at hj ⊢
        rw [this] at k1
        exact Option.some.inj k1
      rw [hd2]
      obtain ⟨inf, g1, g2, _⟩ := k3.info
      simp [k3.size, Program.cellsOf, g1, g2]
  obtain ⟨c', q1, q2, q3⟩ := fill_struct (b := b) hpl (vs := vs) (cells := (zeroCells b).toArray) (by simp [hzrep.length]) hdv hpart
  have hrun : (Instr.build T vs.toArray).run P w = .ok (.agg c') w := by
    simp [Instr.build, hz1, run_underlying hu, hmap, Value.cells, q1]
  have hc' : c'.toList.length = b.sz := by simp [q2]
  refine Yld.same h hrun ⟨c'.toList, by simp [VS], ?_⟩
  have key := buildSt_rep h (cs := c'.toList) (off := 0) hb (by omega) (fun f b1 hf => by
    have hs := q3 f b1 hf
    have hfind := hp.find f
    rw [Nat.zero_add, Nat.zero_add]
    cases hps : ps.find? fun q => Nat.beq q.1 f with
    | none =>
      rw [hps] at hfind
      simp only at hfind ⊢
      rw [hfind] at hs
      simp only [seg] at hs
      rw [hs]
      exact zeroCells_seg hd hf
    | some q =>
      rw [hps] at hfind
      simp only at hfind ⊢
      obtain ⟨v, hv, hfv⟩ := hfind
      rw [hfv] at hs
      exact ⟨v, hv, by simpa [seg] using hs.symm⟩)
  rw [List.drop_zero, List.take_of_length_le (by omega)] at key
  exact key
end
end Go.Tom
