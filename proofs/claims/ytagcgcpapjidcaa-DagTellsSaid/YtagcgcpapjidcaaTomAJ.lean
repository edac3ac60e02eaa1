/- What is handed in stands for a typed value. -/
import Derived.Test.YtagcgcpapjidcaaTomAI
import Derived.WideShapes
import Derived.Deep.Slices
set_option linter.unusedVariables false
set_option linter.unusedSimpArgs false
namespace Go.Tom
open Go Go.WideShapes

/-- Its numbers lie in their kinds, its lists and texts are no longer than there may be. -/
def Wf : (τ : Ty) → τ.den → Prop
  | .int k, x => (Lit.int k x).wf = true
  | .bool, _ => True
  | .str, s => s.size ≤ maxLen
  | .slice e, xs => xs.length ≤ maxLen ∧ ∀ x ∈ xs, Wf e x
  | .prod a b, x => Wf a x.1 ∧ Wf b x.2
  | .st a, x => Wf a x
  | .cptr _, _ => True
  | .fn _ _, _ => True

theorem vs_cells {P : Program} {w : World} {r : Reach} {base : Nat} {t : TypeId} {τ : Ty} (h : TyOk P t τ) (hd : τ.data = true) {v : Value} (hv : Value.okWide P w r base t v) : VS τ v v.cells.toList := by
  cases τ with
  | int k => obtain ⟨n, rfl⟩ := okWide_int h.int hv; rfl
  | bool => obtain ⟨n, rfl⟩ := okWide_bool h.bool hv; rfl
  | str => obtain ⟨n, rfl⟩ := okWide_string h.str hv; rfl
  | slice e => obtain ⟨E, hE, _⟩ := h.slice; obtain ⟨a, l, c, rfl⟩ := okWide_slice hE hv; rfl
  | st a => obtain ⟨fs, hfs, _⟩ := h.st; obtain ⟨cs, rfl, _⟩ := okWide_struct hfs hv; show Value.agg cs = .agg cs.toList.toArray; simp
  | prod a b => simp [TyOk, okB] at h
  | cptr a => simp [Ty.data] at hd
  | fn a r => simp [Ty.data] at hd

theorem TyOk.cells {P : Program} {T : TypeId} {τ : Ty} (h : TyOk P T τ) : P.cellsOf T = τ.sz := by
  obtain ⟨i, hi, hs, _⟩ := h.info
  simp [Program.cellsOf, hi, hs]

theorem trod_rep {H : Type} {enc : TypeId × Value → H} {P : Program} {w : World} : ∀ (τ : Ty), τ.data = true →
    (∀ {t : TypeId} {fuel : Nat} {cs : List Value} {x : DataW H × List MemPlace}, TyOk P t τ → DataW.trod enc P w 0 (fun _ => true) true fuel t cs = some x → ∃ v : τ.den, Rep P τ 0 w (fun b => b < w.heap.size) v cs [] ∧ Wf τ v) ∧
    (∀ {fs : Array Field} {i off n : Nat} {cs : List Value}, (okB P τ).2 fs i off = true → (∀ (j : Nat) (f : Field), fs[j]? = some f → ∃ y, DataW.trod enc P w 0 (fun _ => true) true n f.type ((cs.drop f.offset).take (P.cellsOf f.type)) = some y) →
      off + τ.sz ≤ cs.length → ∃ v : τ.den, Rep P τ 0 w (fun b => b < w.heap.size) v ((cs.drop off).take τ.sz) [] ∧ Wf τ v) := by
  have leaf : ∀ (τ : Ty), τ.isProd = false → (∀ {t : TypeId} {fuel : Nat} {cs : List Value} {x : DataW H × List MemPlace}, TyOk P t τ → DataW.trod enc P w 0 (fun _ => true) true fuel t cs = some x → ∃ v : τ.den, Rep P τ 0 w (fun b => b < w.heap.size) v cs [] ∧ Wf τ v) →
      (∀ {fs : Array Field} {i off n : Nat} {cs : List Value}, (okB P τ).2 fs i off = true → (∀ (j : Nat) (f : Field), fs[j]? = some f → ∃ y, DataW.trod enc P w 0 (fun _ => true) true n f.type ((cs.drop f.offset).take (P.cellsOf f.type)) = some y) →
      off + τ.sz ≤ cs.length → ∃ v : τ.den, Rep P τ 0 w (fun b => b < w.heap.size) v ((cs.drop off).take τ.sz) [] ∧ Wf τ v) := by
    intro τ hp h fs i off n cs hok hr hlen
    rw [okB_leaf τ hp] at hok
    unfold leafB at hok
    split at hok
    · rename_i f hf
      simp only [Bool.and_eq_true, beq_iff_eq] at hok
      obtain ⟨⟨⟨ho, hT⟩, _⟩, _⟩ := hok
      obtain ⟨y, hy⟩ := hr i f hf
      rw [ho, TyOk.cells (τ := τ) hT] at hy
      exact h hT hy
    · simp at hok
  intro τ
  induction τ with
  | int k =>
    intro _
    have h1 : ∀ {t : TypeId} {fuel : Nat} {cs : List Value} {x : DataW H × List MemPlace}, TyOk P t (.int k) → DataW.trod enc P w 0 (fun _ => true) true fuel t cs = some x → ∃ v : (Ty.int k).den, Rep P (.int k) 0 w (fun b => b < w.heap.size) v cs [] ∧ Wf (.int k) v := fun ht h => by
      obtain ⟨n, rfl, _, hw⟩ := DataW.trod_int ht.int h
      exact ⟨n, ⟨rfl, rfl⟩, hw⟩
    exact ⟨h1, leaf _ rfl h1⟩
  | bool =>
    intro _
    have h1 : ∀ {t : TypeId} {fuel : Nat} {cs : List Value} {x : DataW H × List MemPlace}, TyOk P t .bool → DataW.trod enc P w 0 (fun _ => true) true fuel t cs = some x → ∃ v : Ty.bool.den, Rep P .bool 0 w (fun b => b < w.heap.size) v cs [] ∧ Wf .bool v := fun ht h => by
      obtain ⟨n, rfl, _⟩ := DataW.trod_bool ht.bool h
      exact ⟨n, ⟨rfl, rfl⟩, trivial⟩
    exact ⟨h1, leaf _ rfl h1⟩
  | str =>
    intro _
    have h1 : ∀ {t : TypeId} {fuel : Nat} {cs : List Value} {x : DataW H × List MemPlace}, TyOk P t .str → DataW.trod enc P w 0 (fun _ => true) true fuel t cs = some x → ∃ v : Ty.str.den, Rep P .str 0 w (fun b => b < w.heap.size) v cs [] ∧ Wf .str v := fun ht h => by
      obtain ⟨n, rfl, _, hs⟩ := DataW.trod_string ht.str h
      exact ⟨n, ⟨rfl, rfl⟩, hs⟩
    exact ⟨h1, leaf _ rfl h1⟩
  | cptr a _ => intro hd; simp [Ty.data] at hd
  | fn a r _ _ => intro hd; simp [Ty.data] at hd
  | slice e ih =>
    intro hd
    obtain ⟨ih1, _⟩ := ih hd
    have h1 : ∀ {t : TypeId} {fuel : Nat} {cs : List Value} {x : DataW H × List MemPlace}, TyOk P t (.slice e) → DataW.trod enc P w 0 (fun _ => true) true fuel t cs = some x → ∃ v : (Ty.slice e).den, Rep P (.slice e) 0 w (fun b => b < w.heap.size) v cs [] ∧ Wf (.slice e) v := fun {t fuel cs x} ht h => by
      obtain ⟨E, hu, hE⟩ := ht.slice
      rcases Deep.open_slice hu h with ⟨rfl, _⟩ | ⟨a, len, cap, m, n, D, Pl, rfl, _, hlc, hcap, hm, _, hel⟩
      · exact ⟨[], ⟨none, 0, [], [], rfl, Nat.le_refl _, rfl, rfl, fun i hi => absurd hi (by simp), .inl ⟨rfl, rfl, .inl rfl⟩⟩, by simp [Wf]⟩
      · simp only [if_true] at hm
        have hsz := TyOk.cells (τ := e) hE
        rw [hsz] at hel
        have hel' : ∀ i, i < len → ∃ q : List Value × e.den, w.cells? 0 (a.add (i * e.sz)) e.sz = some q.1 ∧ Rep P e 0 w (fun b => b < w.heap.size) q.2 q.1 [] ∧ Wf e q.2 := fun i hi => by
          obtain ⟨cs', h1, h2⟩ := hel i (by omega)
          obtain ⟨v, hv, hw⟩ := ih1 hE h2
          exact ⟨(cs', v), h1, hv, hw⟩
        haveI : Inhabited (List Value × e.den) := ⟨([], e.zero)⟩
        obtain ⟨q, hq⟩ := Deep.choose_lt hel'
        have hlen : ∀ i, i < len → (q i).1.length = e.sz := fun i hi => (World.cells?_some (hq i hi).1).2.1
        refine ⟨(List.range len).map fun i => (q i).2, ⟨some a, cap, (List.range len).map fun i => (q i).1, (List.range len).map fun _ => [], by simp, by simpa using hlc, by simp, by simp, fun i hi h1 h2 => ?_, .inl ⟨rfl, ?_, ?_⟩⟩, ?_, ?_⟩
        · simp only [List.length_map, List.length_range] at hi
          simp only [List.getElem_map, List.getElem_range]
          exact ⟨(hq i hi).2.1, hlen i hi⟩
        · symm
          rw [List.flatten_eq_nil_iff]
          intro l hl
          obtain ⟨_, _, rfl⟩ := List.mem_map.1 hl
          rfl
        · by_cases hz : len = 0
          · left; subst hz; rfl
          · right
            have hpos := Ty.sz_pos e
            obtain ⟨_, _, hc0⟩ := World.cells?_some (hq 0 (by omega)).1
            have h00 := hc0 0 hpos
            have hl0 := hlen 0 (by omega)
            rw [List.getElem?_eq_getElem (by omega)] at h00
            have hsp := World.cell?_spot h00
            obtain ⟨b, o, sp⟩ := a
            have hsp' : sp = none := by simpa [Addr.add] using hsp
            subst hsp'
            have hblk := World.block_lt_of_cell? w (a := _) h00
            refine ⟨b, o, rfl, by simpa [Addr.add] using hblk, fun i hi j hj => ?_⟩
            simp only [List.length_map, List.length_range] at hi
            simp only [List.getElem_map, List.getElem_range] at hj ⊢
            obtain ⟨_, _, hci⟩ := World.cells?_some (hq i hi).1
            have := hci j (by rw [hlen i hi] at hj; exact hj)
            rw [List.getElem?_eq_getElem hj, add_plain, add_plain] at this
            exact this
        · simp only [List.length_map, List.length_range]; omega
        · intro x hx
          obtain ⟨i, hi, rfl⟩ := List.mem_map.1 hx
          exact (hq i (List.mem_range.1 hi)).2.2
    exact ⟨h1, leaf _ rfl h1⟩
  | st a ih =>
    intro hd
    obtain ⟨_, ih2⟩ := ih hd
    have h1 : ∀ {t : TypeId} {fuel : Nat} {cs : List Value} {x : DataW H × List MemPlace}, TyOk P t (.st a) → DataW.trod enc P w 0 (fun _ => true) true fuel t cs = some x → ∃ v : (Ty.st a).den, Rep P (.st a) 0 w (fun b => b < w.heap.size) v cs [] ∧ Wf (.st a) v := fun {t fuel cs x} ht h => by
      obtain ⟨fs, hu, hfs, _⟩ := ht.st
      obtain ⟨xs, n, _, _, hl, hxl, hf⟩ := DataW.trod_struct hu h
      have hsz : P.cellsOf t = a.sz := TyOk.cells (τ := .st a) ht
      obtain ⟨v, hv, hw⟩ := ih2 (n := n) (cs := cs) hfs (fun j f hj => by
        have hlt := (Array.getElem?_eq_some_iff.1 hj).1
        have := hf j f hj
        rw [List.getElem?_eq_getElem (by omega)] at this
        exact ⟨_, this⟩) (by omega)
      rw [List.drop_zero, List.take_of_length_le (by omega)] at hv
      exact ⟨v, hv, hw⟩
    exact ⟨h1, leaf _ rfl h1⟩
  | prod a b iha ihb =>
    intro hd
    simp only [Ty.data, Bool.and_eq_true] at hd
    obtain ⟨ha1, _⟩ := iha hd.1
    obtain ⟨_, hb2⟩ := ihb hd.2
    refine ⟨fun ht => by simp [TyOk, okB] at ht, fun {fs i off n cs} hok hr hlen => ?_⟩
    simp only [okB, Bool.and_eq_true] at hok
    obtain ⟨hoka, hokb⟩ := hok
    simp only [Ty.sz] at hlen
    split at hoka
    · rename_i f hf
      simp only [Bool.and_eq_true, beq_iff_eq] at hoka
      obtain ⟨⟨ho, hT⟩, _⟩ := hoka
      obtain ⟨y, hy⟩ := hr i f hf
      rw [ho, TyOk.cells (τ := a) hT] at hy
      obtain ⟨va, hva, wa⟩ := ha1 hT hy
      obtain ⟨vb, hvb, wb⟩ := hb2 hokb hr (by omega)
      refine ⟨(va, vb), ⟨_, _, [], [], ?_, rfl, hva.length, hvb.length, hva, hvb⟩, wa, wb⟩
      rw [Ty.sz, List.take_add, List.drop_drop]
    · simp at hoka

/-- The result of a statement that is true. -/
theorem bool_res {P : Program} {w : World} {F : Nat → Prop} {b : Bool} {vr : List Value} {O : List Nat} (h : ResRep P w F [⟨0, .bool, b⟩] vr O) : vr = [.bool b] := by
  obtain ⟨v, vs', cs, O1, O2, rfl, _, hv, hr, rfl, _⟩ := h
  have hr' : cs = [.bool b] := hr.1
  subst hr'
  have : [Value.bool b] = [v] := hv
  simp only [List.cons.injEq, and_true] at this
  rw [this]
end Go.Tom
