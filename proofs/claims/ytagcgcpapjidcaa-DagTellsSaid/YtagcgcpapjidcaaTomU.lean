/- Stores. -/
import Derived.Test.YtagcgcpapjidcaaTomR
set_option linter.unusedVariables false
set_option linter.unusedSimpArgs false
namespace Go.Tom
open Go

/-- What lies in a slot is not turned by taking something out of another one. -/
theorem takeV_at {E : Env} {Tx : Option Ty} {r : RS} {n : Nat} {t : TV} {E' : Env} (hev : takeV E Tx r = some (n, t, E')) (V : Nat) :
    (∀ m σ x, E'.at V = .v m σ x → E.at V = .v m σ x) ∧ (∀ m σ x, E'.at V = .box m σ x → E.at V = .box m σ x) := by
  have kill : ∀ W, (∀ m σ x, ((E.kill W).set W .dead).at V = .v m σ x → E.at V = .v m σ x) ∧ (∀ m σ x, ((E.kill W).set W .dead).at V = .box m σ x → E.at V = .box m σ x) := by
    intro W
    refine ⟨fun m σ x h => ?_, fun m σ x h => ?_⟩ <;>
    · rw [Env.at_set] at h
      split at h
      · simp at h
      · rw [Env.at_kill] at h
        split at h
        · simp at h
        · exact h
  have hole : ∀ bx W p s, (∀ m σ x, s ≠ .v m σ x) → (∀ m σ x, s ≠ .box m σ x) → (∀ m σ x, ((E.hole bx W p).set W s).at V = .v m σ x → E.at V = .v m σ x) ∧ (∀ m σ x, ((E.hole bx W p).set W s).at V = .box m σ x → E.at V = .box m σ x) := by
    intro bx W p s hs1 hs2
    have key : ∀ u, (∀ m σ x, holeS bx W p u = .v m σ x → u = .v m σ x) ∧ (∀ m σ x, holeS bx W p u = .box m σ x → u = .box m σ x) := by
      intro u
      refine ⟨fun m σ x h => ?_, fun m σ x h => ?_⟩
      · cases u <;> simp only [holeS] at h
        case ref =>
          split at h
          · split at h <;> simp at h
          · simp at h
        case bor => split at h <;> simp at h
        all_goals
          split at h
          · simp at h
          · exact h
      · cases u <;> simp only [holeS] at h
        case ref =>
          split at h
          · split at h <;> simp at h
          · simp at h
        case bor => split at h <;> simp at h
        all_goals
          split at h
          · simp at h
          · exact h
    refine ⟨fun m σ x h => ?_, fun m σ x h => ?_⟩
    · rw [Env.at_set] at h
      split at h
      · exact absurd h (hs1 m σ x)
      · rw [Env.at_hole] at h; exact (key _).1 m σ x h
    · rw [Env.at_set] at h
      split at h
      · exact absurd h (hs2 m σ x)
      · rw [Env.at_hole] at h; exact (key _).2 m σ x h
  unfold takeV at hev
  split at hev
  · split at hev
    · simp only [Option.some.injEq, Prod.mk.injEq] at hev; obtain ⟨rfl, rfl, rfl⟩ := hev; exact ⟨fun _ _ _ h => h, fun _ _ _ h => h⟩
    · simp at hev
  · split at hev
    · simp only [Option.some.injEq, Prod.mk.injEq] at hev; obtain ⟨rfl, rfl, rfl⟩ := hev; exact ⟨fun _ _ _ h => h, fun _ _ _ h => h⟩
    · simp at hev
  · split at hev
    · simp only [Option.some.injEq, Prod.mk.injEq] at hev; obtain ⟨rfl, rfl, rfl⟩ := hev; exact ⟨fun _ _ _ h => h, fun _ _ _ h => h⟩
    · split at hev
      · simp only [Option.some.injEq, Prod.mk.injEq] at hev; obtain ⟨rfl, rfl, rfl⟩ := hev; exact ⟨fun _ _ _ h => h, fun _ _ _ h => h⟩
      · simp only [Option.some.injEq, Prod.mk.injEq] at hev; obtain ⟨rfl, rfl, rfl⟩ := hev; exact kill _
  · simp only [Option.some.injEq, Prod.mk.injEq] at hev; obtain ⟨rfl, rfl, rfl⟩ := hev; exact kill _
  · split at hev
    · split at hev
      · simp only [Option.some.injEq, Prod.mk.injEq] at hev; obtain ⟨rfl, rfl, rfl⟩ := hev; exact hole _ _ _ _ (by simp) (by simp)
      · simp at hev
    · simp at hev
  · split at hev
    · split at hev
      · simp only [Option.some.injEq, Prod.mk.injEq] at hev; obtain ⟨rfl, rfl, rfl⟩ := hev; exact hole _ _ _ _ (by simp) (by simp)
      · simp at hev
    · simp at hev
  · split at hev
    · simp at hev
    · simp only [Option.some.injEq, Prod.mk.injEq] at hev; obtain ⟨rfl, rfl, rfl⟩ := hev; exact kill _
  · split at hev
    · simp only [Option.some.injEq, Prod.mk.injEq] at hev
      obtain ⟨rfl, rfl, rfl⟩ := hev
      refine ⟨fun m σ x h => ?_, fun m σ x h => ?_⟩ <;>
      · rw [Env.at_set] at h
        split at h
        · simp at h
        · exact h
    · simp at hev
  · simp at hev

section
variable {P : Program} {N : Nat} {w0 w : World} {F0 F : Nat → Prop} {G : Nat × Bool → Bool} {e : Nat → S} {a : Act} {T : Array Value} {O Od : Nat → List Nat}

/-- Blocks that are nobody's. -/
def Free (w0 w : World) (F : Nat → Prop) (Od : Nat → List Nat) (l : List Nat) : Prop := ∀ b ∈ l, w0.heap.size ≤ b ∧ b < w.heap.size ∧ ¬ F b ∧ ∀ u, b ∉ Od u

/-- A VALUE IS WRITTEN INTO A HOLE. -/
theorem wand_store (hfd : Fr P N w0 F0 G e T w F Od) {m : Nat} {σ : Ty} {x : σ.den} {p : List Step} {l : Option (Nat × Nat)} {cs0 : List Value} {Oh : List Nat} (hw : Wand P w F m σ x p l cs0 Oh) (hc0 : cs0.length = σ.sz)
    (hndh : Oh.Nodup) (hfh : Free w0 w F Od Oh) (hl : ∀ b o, l = some (b, o) → o = 0 ∧ (∃ el, w.heap[b]? = some (.cells cs0.toArray el (0, 0))) ∧ b ∉ Oh ∧ w0.heap.size ≤ b ∧ ¬ F b ∧ ∀ u, b ∉ Od u)
    {t' t : TV} (hg : get p σ x = some t') (htt : t'.1 = t.1) {y : σ.den} (hput : put p σ x t = some y) {n : Nat} {v : Value} {cs : List Value} {Ot : List Nat} (hv : VS t.1 v cs) (hr : Rep P t.1 n w F t.2 cs Ot) (hndt : Ot.Nodup) (hft : Free w0 w F Od Ot)
    (hdis : ∀ b ∈ Ot, b ∉ Oh ∧ ∀ o, l ≠ some (b, o)) (hn : t.1.flat = true ∨ m - idxs p ≤ n) {b o : Nat} {τ' : Ty} {cs' : List Value} (hpl : Place w p σ cs0 l τ' cs' (some (b, o))) {Ti : TypeId} (hok : TyOk P Ti t.1) :
    ∃ w1 F1 csn On cur el, (Instr.storeAt Ti (.pointer (some ⟨b, o, none⟩)) v).run P w = .ok () w1 ∧ Fr P N w0 F0 G e T w1 F1 Od ∧ Rep P σ m w1 F1 y csn On ∧ On.Nodup ∧ Free w0 w1 F1 Od On ∧
      (l = none → csn = cs0) ∧ (∀ b0 o0, l = some (b0, o0) → (∃ el, w1.heap[b0]? = some (.cells csn.toArray el (0, 0))) ∧ b0 ∉ On ∧ ¬ F1 b0) ∧ w1.heap.size = w.heap.size ∧
      w.heap[b]? = some (.cells cur el (0, 0)) ∧ w1 = w.setRow b (cur.toList.take o ++ cs ++ cur.toList.drop (o + cs.length)).toArray ∧ o + cs.length ≤ cur.size ∧ At w b o cs' ∧ cs'.length = cs.length ∧ (b ∈ Oh ∨ ∃ o', l = some (b, o')) ∧ (∀ c, F c → F1 c) ∧ (0 < idxs p → csn = cs0) := by
  obtain ⟨tw, bw, ow, csw, g1, g2, g3, g4, g5, g6, gob, gst, gw⟩ := hw
  rw [hg] at g1
  obtain rfl := Option.some.inj g1
  obtain ⟨hτ, hcs, hloc⟩ := Place.det p hpl g2
  simp only [Option.some.injEq, Prod.mk.injEq] at hloc
  obtain ⟨rfl, rfl⟩ := hloc
  subst hcs
  obtain ⟨τt, yv⟩ := t
  simp only at htt hv hr hput hn hok
  obtain ⟨τ1, y1⟩ := t'
  simp only at htt
  subst htt
  simp only at g2 g5 gw
  -- the value is let go as deep as the hole wants it
  have hlow : ∃ Ot' R, Ot.Perm (Ot' ++ R) ∧ ∀ F', Ext w F w F' → (∀ b ∈ R, F' b) → Rep P τ1 (m - idxs p) w F' yv cs Ot' := by
    rcases hn with hn | hn
    · obtain ⟨h1, h2⟩ := hr.flat hn
      exact ⟨[], [], by rw [h1]; simp, fun F' _ _ => h2 _ _ _⟩
    · exact hr.lower hn
  obtain ⟨Ot', R, hperm, hlow⟩ := hlow
  have hR : ∀ c ∈ R, c ∈ Ot := fun c hc => hperm.mem_iff.2 (List.mem_append_right _ hc)
  have hOt' : ∀ c ∈ Ot', c ∈ Ot := fun c hc => hperm.mem_iff.2 (List.mem_append_left _ hc)
  have hndp := hperm.nodup_iff.1 hndt
  have hfr1 := hfd.more (R := R) fun c hc => by obtain ⟨h1, h2, h3, h4⟩ := hft c (hR c hc); exact ⟨h1, h2, h4⟩
  have hext : Ext w F w (fun c => F c ∨ c ∈ R) := ⟨fun _ hc => .inl hc, fun _ _ => rfl, hfr1.lt⟩
  have hrt := hlow _ hext fun c hc => .inr hc
  -- the block
  obtain ⟨cur, el, hb, _⟩ := gob
  have hcl : cs.length = τ1.sz := hr.length
  have hle : o + cs.length ≤ cur.size := by
    have hpos := τ1.sz_pos
    have := g6 (cs'.length - 1) (by omega)
    simp only [World.cell?, hb, Option.isSome_none, Bool.false_eq_true, if_false] at this
    have := (Array.getElem?_eq_some_iff.1 this).1
    omega
  have hrun := run_storeAt (w := w) (o := o) hok hb hv hr (by omega)
  have hbF : ¬ F b ∧ b ∉ R ∧ b ∉ Ot' ∧ w0.heap.size ≤ b ∧ ∀ u, b ∉ Od u := by
    rcases g4 with hbO | ⟨o', hbl⟩
    · obtain ⟨h1, h2, h3, h4⟩ := hfh b hbO
      exact ⟨h3, fun hc => (hdis b (hR b hc)).1 hbO, fun hc => (hdis b (hOt' b hc)).1 hbO, h1, h4⟩
    · obtain ⟨_, _, _, h2, h3, h4⟩ := hl b o' hbl
      exact ⟨h3, fun hc => (hdis b (hR b hc)).2 o' hbl, fun hc => (hdis b (hOt' b hc)).2 o' hbl, h2, h4⟩
  obtain ⟨hbF, hbR, hbt, hb0, hbd⟩ := hbF
  have hsame : ∀ c, c ≠ b → (w.setRow b (cur.toList.take o ++ cs ++ cur.toList.drop (o + cs.length)).toArray).heap[c]? = w.heap[c]? := fun c hc => setRow_heap_other hc
  have hw1 := hfr1.world (w1 := w.setRow b (cur.toList.take o ++ cs ++ cur.toList.drop (o + cs.length)).toArray) (Below.setRow hfr1.below hb0 _) (by rw [setRow_size]; exact Nat.le_refl _)
    (fun c hc => hsame c fun hcb => hc.elim (fun hc => hbF (hcb ▸ hc)) (fun hc => hbR (hcb ▸ hc))) (fun u c hc => hsame c fun hcb => hbd u (hcb ▸ hc))
  have hext1 : Ext w F (w.setRow b (cur.toList.take o ++ cs ++ cur.toList.drop (o + cs.length)).toArray) (fun c => F c ∨ c ∈ R) :=
    ⟨fun _ hc => .inl hc, fun c hc => hsame c fun hcb => hbF (hcb ▸ hc), hw1.lt⟩
  have hext2 : Ext w (fun c => F c ∨ c ∈ R) (w.setRow b (cur.toList.take o ++ cs ++ cur.toList.drop (o + cs.length)).toArray) (fun c => F c ∨ c ∈ R) :=
    ⟨fun _ hc => hc, fun c hc => hsame c fun hcb => hc.elim (fun hc => hbF (hcb ▸ hc)) (fun hc => hbR (hcb ▸ hc)), hw1.lt⟩
  have hrt1 := hrt.mono hext2 fun c hc => BSame.of_heap (hsame c fun hcb => hbt (hcb ▸ hc))
  obtain ⟨csn, On, q1, q2, q3, q4⟩ := gw _ _ yv cs Ot' y hput hext1 (fun c _ => chg_setRow hb hle c) hrt1
  have hOnm : ∀ c ∈ On, c ∈ Ot' ∨ c ∈ Oh := fun c hc => List.mem_append.1 (q2.mem_iff.1 hc)
  have hndn : (Ot' ++ Oh).Nodup := List.nodup_append.2 ⟨(List.nodup_append.1 hndp).1, hndh, fun c hc d hd hcd => (hdis c (hOt' c hc)).1 (hcd ▸ hd)⟩
  refine ⟨_, _, csn, On, cur, el, hrun, hw1, q1, q2.nodup_iff.2 hndn, fun c hc => ?_, fun hln => ?_, fun b0 o0 hl0 => ?_, setRow_size, hb, rfl, hle, g6, by omega, g4, fun c hc => .inl hc, q4⟩
  · rcases hOnm c hc with hc | hc
    · obtain ⟨h1, h2, h3, h4⟩ := hft c (hOt' c hc)
      refine ⟨h1, by rw [setRow_size]; exact h2, fun hF => ?_, h4⟩
      rcases hF with hF | hF
      · exact h3 hF
      · exact (List.nodup_append.1 hndp).2.2 c hc c hF rfl
    · obtain ⟨h1, h2, h3, h4⟩ := hfh c hc
      refine ⟨h1, by rw [setRow_size]; exact h2, fun hF => ?_, h4⟩
      rcases hF with hF | hF
      · exact h3 hF
      · exact (hdis c (hR c hF)).1 hc
  · refine q4 ?_
    rcases Nat.eq_zero_or_pos (idxs p) with hz | hp
    · exfalso
      subst hln
      have : ∀ (p : List Step) {τ τ' : Ty} {cs cs' : List Value} {l' : Option (Nat × Nat)}, idxs p = 0 → Place w p τ cs none τ' cs' l' → l' = none := by
        intro p
        induction p with
        | nil => intro τ τ' cs cs' l' _ h; exact h.2.2
        | cons s p ih =>
          intro τ τ' cs cs' l' hz h
          cases s with
          | idx i => simp [idxs] at hz
          | fld f => cases τ with
            | st a1 => obtain ⟨a2, _, hp⟩ := h; exact ih (by simpa [idxs] using hz) hp
            | _ => exact h.elim
      have := this p hz g2
      simp at this
    · exact hp
  · obtain ⟨rfl, ⟨el0, hb0c⟩, hbOh, h2, h3, h4⟩ := hl b0 o0 hl0
    have hb0On : b0 ∉ On := fun hc => by
      rcases hOnm b0 hc with hc | hc
      · exact (hdis b0 (hOt' b0 hc)).2 _ hl0
      · exact hbOh hc
    have hb0F : ¬ (F b0 ∨ b0 ∈ R) := fun hc => by
      rcases hc with hc | hc
      · exact h3 hc
      · exact (hdis b0 (hR b0 hc)).2 _ hl0
    refine ⟨?_, hb0On, hb0F⟩
    by_cases hbb : b0 = b
    · subst hbb
      rw [hb0c] at hb
      simp only [Option.some.injEq, Obj.cells.injEq, and_true] at hb
      obtain ⟨hcur, hel⟩ := hb
      subst hcur; subst hel
      have hh := setRow_heap w b0 cs0.toArray (cs0.toArray.toList.take o ++ cs ++ cs0.toArray.toList.drop (o + cs.length)).toArray el0 (0, 0) hb0c
      have hat := q3 b0 0 hl0
      have hat2 := at_heap hh
      have : csn = cs0.toArray.toList.take o ++ cs ++ cs0.toArray.toList.drop (o + cs.length) := hat.unique hat2 (by
        rw [q1.length]; simp at hle ⊢; omega)
      exact ⟨el0, by rw [this]; exact hh⟩
    · have hpos : 0 < idxs p := by
        rcases Nat.eq_zero_or_pos (idxs p) with hz | hp
        · exfalso
          rw [hl0] at g2
          obtain ⟨o1, k1, _⟩ := place_in p g2 hz hc0
          simp only [Option.some.injEq, Prod.mk.injEq] at k1
          exact hbb k1.1.symm
        · exact hp
      rw [q4 hpos]
      exact ⟨el0, by rw [hsame b0 hbb]; exact hb0c⟩
end
end Go.Tom
