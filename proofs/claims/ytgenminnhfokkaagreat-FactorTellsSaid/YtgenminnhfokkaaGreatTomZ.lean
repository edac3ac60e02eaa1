/- What the contracts of the functions are proved by (part Z). -/
import Derived.Test.YtgenminnhfokkaaGreatTomR
set_option linter.unusedVariables false
set_option linter.unusedSimpArgs false
namespace Go.Tom
open Go
theorem takeV_at {E : Env} {Tx : Option Ty} {r : RS} {n : Lv} {t : TV} {E' : Env} (hev : takeV E Tx r = some (n, t, E')) (V : Nat) :
  (∀ m σ x, E'.at V = .v m σ x → E.at V = .v m σ x) ∧ (∀ m σ x, E'.at V = .box m σ x → E.at V = .box m σ x) := by
 have kill : ∀ W, (∀ m σ x, ((E.kill W).set W .dead).at V = .v m σ x → E.at V = .v m σ x) ∧ (∀ m σ x, ((E.kill W).set W .dead).at V = .box m σ x → E.at V = .box m σ x) := by
  intro W
  refine ⟨fun m σ x h => ?_, fun m σ x h => ?_⟩ <;>
  ·rw [Env.at_set] at h
   split at h
   ·simp at h
   ·rw [Env.at_kill] at h
    split at h
    ·simp at h
    ·exact h
 have hole : ∀ bx W p s, (∀ m σ x, s ≠ .v m σ x) → (∀ m σ x, s ≠ .box m σ x) → (∀ m σ x, ((E.hole bx W p).set W s).at V = .v m σ x → E.at V = .v m σ x) ∧ (∀ m σ x, ((E.hole bx W p).set W s).at V = .box m σ x → E.at V = .box m σ x) := by
  intro bx W p s hs1 hs2
  have key : ∀ u, (∀ m σ x, holeS bx W p u = .v m σ x → u = .v m σ x) ∧ (∀ m σ x, holeS bx W p u = .box m σ x → u = .box m σ x) := by
   intro u
   refine ⟨fun m σ x h => ?_, fun m σ x h => ?_⟩
   ·cases u <;> simp only [holeS] at h
    case ref =>
     split at h
     ·split at h <;> simp at h
     ·simp at h
    case bor => split at h <;> simp at h
    all_goals
     split at h
     ·simp at h
     ·exact h
   ·cases u <;> simp only [holeS] at h
    case ref =>
     split at h
     ·split at h <;> simp at h
     ·simp at h
    case bor => split at h <;> simp at h
    all_goals
     split at h
     ·simp at h
     ·exact h
  refine ⟨fun m σ x h => ?_, fun m σ x h => ?_⟩
  ·rw [Env.at_set] at h
   split at h
   ·exact absurd h (hs1 m σ x)
   ·rw [Env.at_hole] at h; exact (key _).1 m σ x h
  ·rw [Env.at_set] at h
   split at h
   ·exact absurd h (hs2 m σ x)
   ·rw [Env.at_hole] at h; exact (key _).2 m σ x h
 unfold takeV at hev
 split at hev
 ·split at hev
  ·simp only [Option.some.injEq, Prod.mk.injEq] at hev; obtain ⟨rfl, rfl, rfl⟩ := hev; exact ⟨fun _ _ _ h => h, fun _ _ _ h => h⟩
  ·simp at hev
 ·split at hev
  ·simp only [Option.some.injEq, Prod.mk.injEq] at hev; obtain ⟨rfl, rfl, rfl⟩ := hev; exact ⟨fun _ _ _ h => h, fun _ _ _ h => h⟩
  ·simp at hev
 ·split at hev
  ·simp only [Option.some.injEq, Prod.mk.injEq] at hev; obtain ⟨rfl, rfl, rfl⟩ := hev; exact ⟨fun _ _ _ h => h, fun _ _ _ h => h⟩
  ·split at hev
   ·simp only [Option.some.injEq, Prod.mk.injEq] at hev; obtain ⟨rfl, rfl, rfl⟩ := hev; exact ⟨fun _ _ _ h => h, fun _ _ _ h => h⟩
   ·simp only [Option.some.injEq, Prod.mk.injEq] at hev; obtain ⟨rfl, rfl, rfl⟩ := hev; exact kill _
 ·simp only [Option.some.injEq, Prod.mk.injEq] at hev; obtain ⟨rfl, rfl, rfl⟩ := hev; exact kill _
 ·simp only [Option.some.injEq, Prod.mk.injEq] at hev; obtain ⟨rfl, rfl, rfl⟩ := hev; exact kill _
 ·split at hev
  ·split at hev
   ·split at hev
    ·simp only [Option.some.injEq, Prod.mk.injEq] at hev; obtain ⟨rfl, rfl, rfl⟩ := hev; exact hole _ _ _ _ (by simp) (by simp)
    ·simp at hev
   ·simp at hev
  ·simp at hev
 ·split at hev
  ·split at hev
   ·simp only [Option.some.injEq, Prod.mk.injEq] at hev; obtain ⟨rfl, rfl, rfl⟩ := hev; exact hole _ _ _ _ (by simp) (by simp)
   ·simp at hev
  ·simp at hev
 ·split at hev
  ·simp at hev
  ·simp only [Option.some.injEq, Prod.mk.injEq] at hev; obtain ⟨rfl, rfl, rfl⟩ := hev; exact kill _
 ·split at hev
  ·simp only [Option.some.injEq, Prod.mk.injEq] at hev
   obtain ⟨rfl, rfl, rfl⟩ := hev
   refine ⟨fun m σ x h => ?_, fun m σ x h => ?_⟩ <;>
   ·rw [Env.at_set] at h
    split at h
    ·simp at h
    ·exact h
  ·simp at hev
 ·simp at hev
section
variable {P : Program} {N : Nat} {w0 : Start} {w : World} {F0 F : Nat → Prop} {G : Nat × Bool → Bool} {e : Nat → S} {a : Act} {T : Array Value} {O Od : Nat → List Nat}
def Free (w0 : Start) (w : World) (F : Nat → Prop) (Od : Nat → List Nat) (l : List Nat) : Prop := ∀ b ∈ l, ¬ w0.pr b ∧ b < w.heap.size ∧ ¬ F b ∧ ∀ u, b ∉ Od u
theorem wand_store (hfd : Fr P N w0 F0 G e T w F Od) {m : Lv} {σ : Ty} {x : σ.den} {p : List Step} {l : Option (Nat × Nat)} {cs0 : List Value} {Oh : List Nat} (hw : Wand P w F m σ x p l cs0 Oh) (hc0 : cs0.length = σ.sz)
  (hndh : Oh.Nodup) (hfh : Free w0 w F Od Oh) (hl : ∀ b o, l = some (b, o) → o = 0 ∧ (∃ el, w.heap[b]? = some (.cells cs0.toArray el (0, 0))) ∧ b ∉ Oh ∧ ¬ w0.pr b ∧ ¬ F b ∧ ∀ u, b ∉ Od u)
  {t' t : TV} (hg : get p σ x = some t') (htt : t'.1 = t.1) {y : σ.den} (hput : put p σ x t = some y) {n : Lv} {v : Value} {cs : List Value} {Ot : List Nat} (hv : VS t.1 v cs) (hr : Rep P t.1 n w F t.2 cs Ot) (hndt : Ot.Nodup) (hft : Free w0 w F Od Ot)
  (hdis : ∀ b ∈ Ot, b ∉ Oh ∧ ∀ o, l ≠ some (b, o)) {ln lv : Lv} (hln : latp p σ m = some ln) (hlv : 0 < idxs p → lv = ln) (hn : t.1.flat = true ∨ Lv.le lv n = true) {b o : Nat} {τ' : Ty} {cs' : List Value} (hpl : Place w p σ cs0 l τ' cs' (some (b, o))) {Ti : TypeId} (hok : TyOk P Ti t.1) :
  ∃ w1 F1 csn On cur el, (Instr.storeAt Ti (.pointer (some ⟨b, o, none⟩)) v).run P w = .ok () w1 ∧ Fr P N w0 F0 G e T w1 F1 Od ∧ Rep P σ (lput p σ m lv) w1 F1 y csn On ∧ On.Nodup ∧ Free w0 w1 F1 Od On ∧
   (l = none → csn = cs0) ∧ (∀ b0 o0, l = some (b0, o0) → (∃ el, w1.heap[b0]? = some (.cells csn.toArray el (0, 0))) ∧ b0 ∉ On ∧ ¬ F1 b0) ∧ w1.heap.size = w.heap.size ∧
   w.heap[b]? = some (.cells cur el (0, 0)) ∧ w1 = w.setRow b (cur.toList.take o ++ cs ++ cur.toList.drop (o + cs.length)).toArray ∧ o + cs.length ≤ cur.size ∧ At w b o cs' ∧ cs'.length = cs.length ∧ (b ∈ Oh ∨ ∃ o', l = some (b, o')) ∧ (∀ c, F c → F1 c) ∧ (0 < idxs p → csn = cs0) := by
 obtain ⟨tw, bw, ow, csw, lnw, g1, g2, g3, g4, g5, g6, gob, gst, gw⟩ := hw
 rw [hln] at g3
 obtain rfl := Option.some.inj g3
 rw [hg] at g1
 obtain rfl := Option.some.inj g1
 obtain ⟨hτ, hcs, hloc⟩ := Place.det p hpl g2
 simp only [Option.some.injEq, Prod.mk.injEq] at hloc
 obtain ⟨rfl, rfl⟩ := hloc
 subst hcs
 obtain ⟨τt, yv⟩ := t
 simp only at htt hv hr hput hn hok
 obtain ⟨τ1, y1⟩ := t'
 simp only at htt
 subst htt
 simp only at g2 g5 gw
 have hlow : ∃ Ot' R, Ot.Perm (Ot' ++ R) ∧ ∀ F', Ext w F w F' → (∀ b ∈ R, F' b) → Rep P τ1 lv w F' yv cs Ot' := by
  rcases hn with hn | hn
  ·obtain ⟨h1, h2⟩ := hr.flat hn
   exact ⟨[], [], by rw [h1]; simp, fun F' _ _ => h2 _ _ _⟩
  ·exact hr.lower hn
 obtain ⟨Ot', R, hperm, hlow⟩ := hlow
 have hR : ∀ c ∈ R, c ∈ Ot := fun c hc => hperm.mem_iff.2 (List.mem_append_right _ hc)
 have hOt' : ∀ c ∈ Ot', c ∈ Ot := fun c hc => hperm.mem_iff.2 (List.mem_append_left _ hc)
 have hndp := hperm.nodup_iff.1 hndt
 have hfr1 := hfd.more (R := R) fun c hc => by obtain ⟨h1, h2, h3, h4⟩ := hft c (hR c hc); exact ⟨h1, h2, h4⟩
 have hext : Ext w F w (fun c => F c ∨ c ∈ R) := ⟨fun _ hc => .inl hc, fun _ _ => rfl, hfr1.lt⟩
 have hrt := hlow _ hext fun c hc => .inr hc
 obtain ⟨cur, el, hb, _⟩ := gob
 have hcl : cs.length = τ1.sz := hr.length
 have hle : o + cs.length ≤ cur.size := by
  have hpos := τ1.sz_pos
  have := g6 (cs'.length - 1) (by omega)
  simp only [World.cell?, hb, Option.isSome_none, Bool.false_eq_true, if_false] at this
  have := (Array.getElem?_eq_some_iff.1 this).1
  omega
 have hrun := run_storeAt (w := w) (o := o) hok hb hv hr (by omega)
 have hbF : ¬ F b ∧ b ∉ R ∧ b ∉ Ot' ∧ ¬ w0.pr b ∧ ∀ u, b ∉ Od u := by
  rcases g4 with hbO | ⟨o', hbl⟩
  ·obtain ⟨h1, h2, h3, h4⟩ := hfh b hbO
   exact ⟨h3, fun hc => (hdis b (hR b hc)).1 hbO, fun hc => (hdis b (hOt' b hc)).1 hbO, h1, h4⟩
  ·obtain ⟨_, _, _, h2, h3, h4⟩ := hl b o' hbl
   exact ⟨h3, fun hc => (hdis b (hR b hc)).2 o' hbl, fun hc => (hdis b (hOt' b hc)).2 o' hbl, h2, h4⟩
 obtain ⟨hbF, hbR, hbt, hb0, hbd⟩ := hbF
 have hsame : ∀ c, c ≠ b → (w.setRow b (cur.toList.take o ++ cs ++ cur.toList.drop (o + cs.length)).toArray).heap[c]? = w.heap[c]? := fun c hc => setRow_heap_other hc
 have hw1 := hfr1.world (w1 := w.setRow b (cur.toList.take o ++ cs ++ cur.toList.drop (o + cs.length)).toArray) (Kept.setRow hfr1.below hb0 _) (by rw [setRow_size]; exact Nat.le_refl _)
  (fun c hc => hsame c fun hcb => hc.elim (fun hc => hbF (hcb ▸ hc)) (fun hc => hbR (hcb ▸ hc))) (fun u c hc => hsame c fun hcb => hbd u (hcb ▸ hc))
 have hext1 : Ext w F (w.setRow b (cur.toList.take o ++ cs ++ cur.toList.drop (o + cs.length)).toArray) (fun c => F c ∨ c ∈ R) :=
  ⟨fun _ hc => .inl hc, fun c hc => hsame c fun hcb => hbF (hcb ▸ hc), hw1.lt⟩
 have hext2 : Ext w (fun c => F c ∨ c ∈ R) (w.setRow b (cur.toList.take o ++ cs ++ cur.toList.drop (o + cs.length)).toArray) (fun c => F c ∨ c ∈ R) :=
  ⟨fun _ hc => hc, fun c hc => hsame c fun hcb => hc.elim (fun hc => hbF (hcb ▸ hc)) (fun hc => hbR (hcb ▸ hc)), hw1.lt⟩
 have hrt1 := hrt.mono hext2 fun c hc => BSame.of_heap (hsame c fun hcb => hbt (hcb ▸ hc))
 obtain ⟨csn, On, q1, q2, q3, q4⟩ := gw _ _ yv cs Ot' y lv hlv hput hext1 (fun c _ => chg_setRow hb hle c) hrt1
 have hOnm : ∀ c ∈ On, c ∈ Ot' ∨ c ∈ Oh := fun c hc => List.mem_append.1 (q2.mem_iff.1 hc)
 have hndn : (Ot' ++ Oh).Nodup := List.nodup_append.2 ⟨(List.nodup_append.1 hndp).1, hndh, fun c hc d hd hcd => (hdis c (hOt' c hc)).1 (hcd ▸ hd)⟩
 refine ⟨_, _, csn, On, cur, el, hrun, hw1, q1, q2.nodup_iff.2 hndn, fun c hc => ?_, fun hln => ?_, fun b0 o0 hl0 => ?_, setRow_size, hb, rfl, hle, g6, by omega, g4, fun c hc => .inl hc, q4⟩
 ·rcases hOnm c hc with hc | hc
  ·obtain ⟨h1, h2, h3, h4⟩ := hft c (hOt' c hc)
   refine ⟨h1, by rw [setRow_size]; exact h2, fun hF => ?_, h4⟩
   rcases hF with hF | hF
   ·exact h3 hF
   ·exact (List.nodup_append.1 hndp).2.2 c hc c hF rfl
  ·obtain ⟨h1, h2, h3, h4⟩ := hfh c hc
   refine ⟨h1, by rw [setRow_size]; exact h2, fun hF => ?_, h4⟩
   rcases hF with hF | hF
   ·exact h3 hF
   ·exact (hdis c (hR c hF)).1 hc
 ·refine q4 ?_
  rcases Nat.eq_zero_or_pos (idxs p) with hz | hp
  ·exfalso
   subst hln
   have : ∀ (p : List Step) {τ τ' : Ty} {cs cs' : List Value} {l' : Option (Nat × Nat)}, idxs p = 0 → Place w p τ cs none τ' cs' l' → l' = none := by
    intro p
    induction p with
    | nil => intro τ τ' cs cs' l' _ h; exact h.2.2
    | cons s p ih =>
     intro τ τ' cs cs' l' hz h
     cases s with
     | idx i => simp [idxs] at hz
     | fld f => cases τ with
      | st a1 => obtain ⟨a2, _, hp⟩ := h; exact ih (by simpa [idxs] using hz) hp
      | _ => exact h.elim
   have := this p hz g2
   simp at this
  ·exact hp
 ·obtain ⟨rfl, ⟨el0, hb0c⟩, hbOh, h2, h3, h4⟩ := hl b0 o0 hl0
  have hb0On : b0 ∉ On := fun hc => by
   rcases hOnm b0 hc with hc | hc
   ·exact (hdis b0 (hOt' b0 hc)).2 _ hl0
   ·exact hbOh hc
  have hb0F : ¬ (F b0 ∨ b0 ∈ R) := fun hc => by
   rcases hc with hc | hc
   ·exact h3 hc
   ·exact (hdis b0 (hR b0 hc)).2 _ hl0
  refine ⟨?_, hb0On, hb0F⟩
  by_cases hbb : b0 = b
  ·subst hbb
   rw [hb0c] at hb
   simp only [Option.some.injEq, Obj.cells.injEq, and_true] at hb
   obtain ⟨hcur, hel⟩ := hb
   subst hcur; subst hel
   have hh := setRow_heap w b0 cs0.toArray (cs0.toArray.toList.take o ++ cs ++ cs0.toArray.toList.drop (o + cs.length)).toArray el0 (0, 0) hb0c
   have hat := q3 b0 0 hl0
   have hat2 := at_heap hh
   have : csn = cs0.toArray.toList.take o ++ cs ++ cs0.toArray.toList.drop (o + cs.length) := hat.unique hat2 (by
    rw [q1.length]; simp at hle ⊢; omega)
   exact ⟨el0, by rw [this]; exact hh⟩
  ·have hpos : 0 < idxs p := by
    rcases Nat.eq_zero_or_pos (idxs p) with hz | hp
    ·exfalso
     rw [hl0] at g2
     obtain ⟨o1, k1, _⟩ := place_in p g2 hz hc0
     simp only [Option.some.injEq, Prod.mk.injEq] at k1
     exact hbb k1.1.symm
    ·exact hp
   rw [q4 hpos]
   exact ⟨el0, by rw [hsame b0 hbb]; exact hb0c⟩
end
end Go.Tom
set_option linter.unusedVariables false
set_option linter.unusedSimpArgs false
namespace Go.Tom
open Go
def NotSl (v : Value) : Prop := ∀ a l k, v ≠ .slice a l k
def HdrEq (v v1 : Value) : Prop := v = v1 ∨ (NotSl v ∧ NotSl v1)
def Hdr (w w1 : World) : Prop := ∀ b j v, w.cell? ⟨b, j, none⟩ = some v → ∃ v1, w1.cell? ⟨b, j, none⟩ = some v1 ∧ HdrEq v v1
def HdrEqs (cs cs1 : List Value) : Prop := cs.length = cs1.length ∧ ∀ i (h : i < cs.length) (h1 : i < cs1.length), HdrEq cs[i] cs1[i]
theorem HdrEqs.refl (cs : List Value) : HdrEqs cs cs := ⟨rfl, fun i _ _ => .inl rfl⟩
theorem At.hdr {w w1 : World} (h : Hdr w w1) {b o : Nat} {cs : List Value} (hat : At w b o cs) : ∃ cs1, At w1 b o cs1 ∧ HdrEqs cs cs1 := by
 induction cs generalizing o with
 | nil => exact ⟨[], fun j hj => absurd hj (by simp), HdrEqs.refl []⟩
 | cons c cs ih =>
  have h0 := hat 0 (by simp)
  simp only [Nat.add_zero, List.getElem_cons_zero] at h0
  obtain ⟨c1, k1, k2⟩ := h b o c h0
  have hrest : At w b (o + 1) cs := fun j hj => by
   have := hat (j + 1) (by simp; omega)
   simp only [List.getElem_cons_succ] at this
   rw [← this]; congr 2; omega
  obtain ⟨cs1, g1, g2, g3⟩ := ih hrest
  refine ⟨c1 :: cs1, fun j hj => ?_, by simp [g2], fun i hi hi1 => ?_⟩
  ·cases j with
   | zero => simpa using k1
   | succ j =>
    have := g1 j (by simpa using hj)
    simp only [List.getElem_cons_succ]
    rw [← this]; congr 2; omega
  ·cases i with
   | zero => exact k2
   | succ i => exact g3 i (by simpa using hi) (by simpa using hi1)
theorem Place.hdr {w w1 : World} (h : Hdr w w1) : ∀ (p : List Step) {τ τ' : Ty} {cs cs' cs1 : List Value} {l l' : Option (Nat × Nat)}, Place w p τ cs l τ' cs' l' → HdrEqs cs cs1 → ∃ cs1', Place w1 p τ cs1 l τ' cs1' l' ∧ HdrEqs cs' cs1' := by
 intro p
 induction p with
 | nil => intro τ τ' cs cs' cs1 l l' hp he; obtain ⟨rfl, rfl, rfl⟩ := hp; exact ⟨cs1, ⟨rfl, rfl, rfl⟩, he⟩
 | cons s p ih =>
  intro τ τ' cs cs' cs1 l l' hp he
  cases s with
  | idx i => cases τ with
   | slice e =>
    obtain ⟨b, o, len, cap, c1, g1, g2, g3, g4, g5, hp⟩ := hp
    subst g1
    obtain ⟨hl, hk⟩ := he
    match cs1, hl with
    | [c], _ =>
     have := hk 0 (by simp) (by simp)
     simp only [List.getElem_cons_zero] at this
     rcases this with this | ⟨hn, _⟩
     ·subst this
      obtain ⟨c2, k1, k2⟩ := g5.hdr h
      obtain ⟨c3, q1, q2⟩ := ih hp k2
      exact ⟨c3, ⟨b, o, len, cap, c2, rfl, g2, g3, by rw [← k2.1]; exact g4, k1, q1⟩, q2⟩
     ·exact absurd rfl (hn _ _ _)
   | _ => exact hp.elim
  | fld f => cases τ with
   | st a1 =>
    obtain ⟨a2, ha, hp⟩ := hp
    obtain ⟨hl, hk⟩ := he
    obtain ⟨c3, q1, q2⟩ := ih hp (cs1 := (cs1.drop (fldOff a1 f)).take a2.sz) ⟨by simp [hl], fun i hi hi1 => by
     simp only [List.getElem_take, List.getElem_drop]
     simp only [List.length_take, List.length_drop] at hi hi1
     exact hk _ (by omega) (by omega)⟩
    exact ⟨c3, ⟨a2, ha, q1⟩, q2⟩
   | _ => exact hp.elim
section
variable {P : Program} {N : Nat} {w0 : Start} {w : World} {F0 F : Nat → Prop} {G : Nat × Bool → Bool} {e : Nat → S} {a : Act} {T : Array Value} {O Od : Nat → List Nat}
theorem Rep.flat_cells : ∀ {τ : Ty} {n : Lv} {x : τ.den} {cs : List Value} {Ox : List Nat}, τ.flat = true → Rep P τ n w F x cs Ox → ∀ c ∈ cs, NotSl c := by
 intro τ
 induction τ with
 | prod b1 b2 ih1 ih2 =>
  intro n x cs Ox hf h c hc
  simp only [Ty.flat, Bool.and_eq_true] at hf
  obtain ⟨c1, c2, O1, O2, rfl, rfl, _, _, r1, r2⟩ := h
  rcases List.mem_append.1 hc with hc | hc
  ·exact ih1 hf.1 r1 c hc
  ·exact ih2 hf.2 r2 c hc
 | st b ih => intro n x cs Ox hf h; exact ih hf h
 | int k => intro n x cs Ox hf h c hc; rw [h.1, List.mem_singleton] at hc; subst hc; intro _ _ _ h; simp at h
 | bool => intro n x cs Ox hf h c hc; rw [h.1, List.mem_singleton] at hc; subst hc; intro _ _ _ h; simp at h
 | str => intro n x cs Ox hf h c hc; rw [h.1, List.mem_singleton] at hc; subst hc; intro _ _ _ h; simp at h
 | slice e1 _ => intro n x cs Ox hf; simp [Ty.flat] at hf
 | cptr e1 _ => intro n x cs Ox hf; simp [Ty.flat] at hf
 | fn e1 r _ _ => intro n x cs Ox hf; simp [Ty.flat] at hf
theorem Rep.not_undef {τ : Ty} {n : Lv} {x : τ.den} {v : Value} {cs : List Value} {Ox : List Nat} (hv : VS τ v cs) (h : Rep P τ n w F x cs Ox) : v ≠ undef := by
 have ho := h.oneCell
 intro hc
 subst hc
 cases τ with
 | st b => have h' : undef = .agg cs.toArray := hv; simp [undef] at h'
 | _ =>
  have h' : cs = [undef] := hv
  have := ho undef (by rw [h']; exact List.mem_singleton.2 rfl)
  simp [undef, Value.oneCell'] at this
theorem slot_lt (hN : T.size = slotN N) {V : Nat} (h : T.getD V undef ≠ undef) : V < slotN N := by
 rcases Nat.lt_or_ge V (slotN N) with hlt | hge
 ·exact hlt
 ·exfalso
  apply h
  simp only [Array.getD]
  rw [dif_neg (by omega)]
theorem Rep.wand {σ : Ty} {m : Lv} {x : σ.den} {p : List Step} {l : Option (Nat × Nat)} {cs0 : List Value} {O1 : List Nat} (hr : Rep P σ m w F x cs0 O1) (hnd : O1.Nodup) {ln : Lv} (hle : latp p σ m = some ln) {τ' : Ty} {cs' : List Value} {b o : Nat}
  (hp : Place w p σ cs0 l τ' cs' (some (b, o))) {t' : TV} (hg : get p σ x = some t') (hl1 : ∀ b o, l = some (b, o) → b ∉ O1) (hl2 : ∀ b o, l = some (b, o) → At w b o cs0 ∧ OwnBlk w b 0) :
  ∃ Or Oc, Wand P w F m σ x p l cs0 Or ∧ (∀ c ∈ Or, c ∈ O1) ∧ Or.Nodup ∧ Rep P t'.1 ln w F t'.2 cs' Oc := by
 have hty := Place.ty p hp hg
 subst hty
 obtain ⟨Oc, Orr, hperm, hrc, hat, hlb, hst, hw⟩ := focus p hr hnd hle hp hg hl1 fun b o h => (hl2 b o h).1
 have hndp := hperm.nodup_iff.1 hnd
 have hmem : ∀ c ∈ Orr, c ∈ O1 := fun c hc => hperm.mem_iff.2 (List.mem_append_right _ hc)
 refine ⟨Orr, Oc, ⟨t', b, o, cs', ln, hg, hp, hle, ?_, hrc.length, hat b o rfl, ?_, fun w1 hs1 => hst w1 hs1, fun w1 F1 y cs1 Ox xn lv hlv hput he hch hrr => hw w1 F1 y cs1 Ox xn lv hlv hput he hch hrr⟩, hmem, (List.nodup_append.1 hndp).2.1, hrc⟩
 ·rcases hlb b o rfl with hb | ⟨_, hb⟩
  ·exact .inl hb
  ·exact .inr hb
 ·rcases hlb b o rfl with hb | ⟨_, o', hb⟩
  ·exact hr.owned_blk b (hmem b hb)
  ·exact (hl2 b o' hb).2
theorem flat_keep {E1 : Nat → S} {V : Nat} {w1 : World} {F1 : Nat → Prop} {sn : S} {e1 : Nat → S} (he1 : e1 V = sn) (hh : Hdr w w1)
  (hroot : ∀ τ cs l, RootAt w (E1 V) (T.getD V undef) τ cs l → ∃ csn, RootAt w1 sn (T.getD V undef) τ csn l ∧ HdrEqs cs csn) (hsol : (∃ m σ x, E1 V = .v m σ x) ∨ ∃ m σ x, E1 V = .box m σ x) {v : Value} :
  ∀ {s : S} {Os : List Nat}, SRep P G w F T E1 v s Os → roots s = [V] → isBor s = false → (∀ f c, s ≠ .clo f c) → SRep P G w1 F1 T e1 v s Os := by
 intro s
 induction s with
 | ref W q =>
  intro Os h hr _ _
  simp only [roots, List.cons.injEq, and_true] at hr
  subst hr
  obtain ⟨h0, b, o, τ', cs', k1, τ, cs, l, k2, k3⟩ := h
  obtain ⟨csn, g1, g2⟩ := hroot τ cs l k2
  obtain ⟨cs1', q1, q2⟩ := Place.hdr hh q k3 g2
  exact ⟨h0, b, o, τ', cs1', k1, τ, csn, l, by rw [he1]; exact g1, q1⟩
 | ext W i =>
  intro Os h hr _ _
  simp only [roots, List.cons.injEq, and_true] at hr
  subst hr
  obtain ⟨_, rs, vs, k1, _⟩ := h
  rcases hsol with ⟨m, σ, x, hs⟩ | ⟨m, σ, x, hs⟩ <;> rw [hs] at k1 <;> simp at k1
 | hrf W l =>
  intro Os h hr _ _
  simp only [roots, List.cons.injEq, and_true] at hr
  subst hr
  refine ⟨h.1, fun hl => ?_⟩
  obtain ⟨bx, n, σ, x, p, b, o, τ', cs, cs', l', k1, _⟩ := h.2 hl
  rcases hsol with ⟨m, σ, x, hs⟩ | ⟨m, σ, x, hs⟩ <;> rw [hs] at k1 <;> simp at k1
 | cnd g s ih =>
  intro Os h hr hb hc
  refine ⟨fun hg => ?_, h.2⟩
  by_cases hcl : ∃ f c, s = .clo f c
  ·obtain ⟨f, c, rfl⟩ := hcl
   exact h.1 hg
  ·exact ih (h.1 hg) (by simpa [roots] using hr) (by simpa [isBor] using hb) fun f c hfc => hcl ⟨f, c, hfc⟩
 | bor W q => intro Os _ _ hb _; simp [isBor] at hb
 | bsl W q l h => intro Os _ _ hb _; simp [isBor] at hb
 | clo f c => intro Os _ _ _ hc; exact absurd rfl (hc f c)
 | dead => intro Os h hr _ _; simp [roots] at hr
 | v _ _ _ => intro Os h hr _ _; simp [roots] at hr
 | box _ _ _ => intro Os h hr _ _; simp [roots] at hr
 | tup _ => intro Os h hr _ _; simp [roots] at hr
 | nil => intro Os h hr _ _; simp [roots] at hr
 | hol _ _ _ _ _ => intro Os h hr _ _; simp [roots] at hr
theorem flat_keep' {E1 : Nat → S} {V : Nat} {w1 : World} {F1 : Nat → Prop} {sn : S} {e1 : Nat → S} (he1 : e1 V = sn) (hh : Hdr w w1)
  (hroot : ∀ τ cs l, RootAt w (E1 V) (T.getD V undef) τ cs l → ∃ csn, RootAt w1 sn (T.getD V undef) τ csn l ∧ HdrEqs cs csn) (hsol : (∃ m σ x, E1 V = .v m σ x) ∨ ∃ m σ x, E1 V = .box m σ x) {v : Value} :
  ∀ {s : S} {Os : List Nat}, SRep P G w F T E1 v s Os → V ∈ roots s → isBor s = false → SRep P G w1 F1 T e1 v s Os := by
 intro s
 induction s with
 | clo f c => intro Os h _ _; exact h
 | cnd g s ih => intro Os h hr hb; exact ⟨fun hg => ih (h.1 hg) (by simpa [roots] using hr) (by simpa [isBor] using hb), h.2⟩
 | ref W q =>
  intro Os h hr hb
  exact flat_keep he1 hh hroot hsol h (by simp only [roots, List.mem_singleton] at hr; subst hr; rfl) hb (by simp)
 | ext W i =>
  intro Os h hr hb
  exact flat_keep he1 hh hroot hsol h (by simp only [roots, List.mem_singleton] at hr; subst hr; rfl) hb (by simp)
 | hrf W l =>
  intro Os h hr hb
  exact flat_keep he1 hh hroot hsol h (by simp only [roots, List.mem_singleton] at hr; subst hr; rfl) hb (by simp)
 | bor W q => intro Os _ _ hb; simp [isBor] at hb
 | bsl W q l h => intro Os _ _ hb; simp [isBor] at hb
 | dead => intro Os h hr _; simp [roots] at hr
 | v _ _ _ => intro Os h hr _; simp [roots] at hr
 | box _ _ _ => intro Os h hr _; simp [roots] at hr
 | tup _ => intro Os h hr _; simp [roots] at hr
 | nil => intro Os h hr _; simp [roots] at hr
 | hol _ _ _ _ _ => intro Os h hr _; simp [roots] at hr
theorem Fr.unkill {E1 : Env} (h : Fr P N w0 F0 G E1.at T w F O) {V : Nat} {sn : S} {w1 : World} {F1 : Nat → Prop} {O1 : Nat → List Nat} (h1 : Fr P N w0 F0 G ((E1.kill V).set V sn).at T w1 F1 O1) (hh : Hdr w w1)
  (hroot : ∀ τ cs l, RootAt w (E1.at V) (T.getD V undef) τ cs l → ∃ csn, RootAt w1 sn (T.getD V undef) τ csn l ∧ HdrEqs cs csn) (hsol : (∃ m σ x, E1.at V = .v m σ x) ∨ ∃ m σ x, E1.at V = .box m σ x) (hsn : roots sn = []) :
  ∃ O2, Fr P N w0 F0 G ((E1.killBor V).set V sn).at T w1 F1 O2 := by
 have hVr : roots (E1.at V) = [] := by rcases hsol with ⟨m, σ, x, hs⟩ | ⟨m, σ, x, hs⟩ <;> rw [hs] <;> rfl
 refine ⟨fun u => if u ≠ V ∧ rooted V (E1.at u) = true then [] else O1 u, h1.less (fun u => ?_) fun u => ?_⟩
 ·have hu1 := h1.rep u
  rw [Env.at_set] at hu1 ⊢
  by_cases hu : u = V
  ·simp only [hu, if_true, ne_eq, not_true_eq_false, false_and, if_false] at hu1 ⊢
   exact hu1.slot fun W hW => by rw [hsn] at hW; cases hW
  ·simp only [hu, if_false] at hu1 ⊢
   rw [Env.at_kill] at hu1
   rw [Env.at_killBor]
   by_cases hr : rooted V (E1.at u) = true
   ·simp only [hr, ne_eq, hu, not_false_eq_true, and_self, if_true, Bool.and_true]
    split
    ·rfl
    ·rename_i hb
     have hO : O u = [] := (h.rep u).rooted_nil (rooted_iff.1 hr)
     have hrep := h.rep u
     rw [hO] at hrep
     exact flat_keep' (e1 := ((E1.killBor V).set V sn).at) (by rw [Env.at_set, if_pos rfl]) hh hroot hsol hrep (rooted_iff.1 hr) (by simpa using hb)
   ·simp only [hr, Bool.false_eq_true, and_false, if_false, Bool.and_false] at hu1 ⊢
    refine hu1.slot fun W hW => ⟨rfl, fun hs => ?_⟩
    rw [Env.at_set] at hs ⊢
    rw [Env.at_set]
    by_cases hWV : W = V
    ·simp only [hWV, if_true]
    ·simp only [hWV, if_false] at hs ⊢
     rw [Env.at_kill] at hs ⊢
     rw [Env.at_killBor]
     split at hs
     ·simp [solid] at hs
     ·rename_i hrW
      simp [hrW]
 ·by_cases hc : u ≠ V ∧ rooted V (E1.at u) = true
  ·rw [if_pos hc]; exact ⟨List.nodup_nil, fun b hb => by cases hb⟩
  ·rw [if_neg hc]; exact ⟨h1.nodup u, fun b hb => hb⟩
end
end Go.Tom
set_option linter.unusedVariables false
set_option linter.unusedSimpArgs false
namespace Go.Tom
open Go
section
variable {P : Program} {N : Nat} {w0 : Start} {w : World} {F0 F : Nat → Prop} {G : Nat × Bool → Bool} {e : Nat → S} {a : Act} {T : Array Value} {O : Nat → List Nat}
theorem hdr_setRow {b o : Nat} {cur : Array Value} {el : TypeId} (hb : w.heap[b]? = some (.cells cur el (0, 0))) {cs cs' : List Value} (hle : o + cs.length ≤ cur.size) (hat : At w b o cs') (hlen : cs'.length = cs.length) (h1 : ∀ c ∈ cs, NotSl c) (h2 : ∀ c ∈ cs', NotSl c) :
  Hdr w (w.setRow b (cur.toList.take o ++ cs ++ cur.toList.drop (o + cs.length)).toArray) := by
 intro c j v hc
 have hch := chg_setRow hb hle c
 by_cases hin : c = b ∧ o ≤ j ∧ j < o + cs.length
 ·obtain ⟨rfl, hj1, hj2⟩ := hin
  have k1 := hch.inn o rfl (j - o) (by omega)
  have k2 := hat (j - o) (by omega)
  rw [show o + (j - o) = j from by omega] at k1 k2
  rw [hc] at k2
  exact ⟨_, k1, .inr ⟨by rw [Option.some.inj k2]; exact h2 _ (List.getElem_mem _), h1 _ (List.getElem_mem _)⟩⟩
 ·refine ⟨v, ?_, .inl rfl⟩
  rw [hch.out j fun o' ho' => ?_]
  ·exact hc
  ·simp only [Option.some.injEq, Prod.mk.injEq] at ho'
   obtain ⟨rfl, rfl⟩ := ho'
   have : ¬ (o ≤ j ∧ j < o + cs.length) := fun hh => hin ⟨rfl, hh⟩
   omega
def mkRoot (bx : Bool) (m : Lv) (σ : Ty) (x : σ.den) : S := if bx then .box m σ x else .v m σ x
theorem mkRoot_roots {bx : Bool} {m : Lv} {σ : Ty} {x : σ.den} : roots (mkRoot bx m σ x) = [] := by cases bx <;> rfl
theorem store_ref {E1 : Env} (hf : Fr P N w0 F0 G E1.at T w F O) {V : Nat} {bx : Bool} {m : Lv} {σ : Ty} {x0 : σ.den} (hV : E1.at V = mkRoot bx m σ x0) {p : List Step} {τ' : Ty} {cs' : List Value} {b o : Nat}
  (hpl : PlaceOf w (E1.at V) (T.getD V undef) p τ' cs' (some (b, o))) {t t' : TV} (hg : get p σ x0 = some t') (htt : t'.1 = t.1) {y : σ.den} (hput : put p σ x0 t = some y) {n : Lv} {v : Value} {cs : List Value} {Ot : List Nat}
  (hv : VS t.1 v cs) (hr : Rep P t.1 n w F t.2 cs Ot) (hndt : Ot.Nodup) (hft : Free w0 w F O Ot) {Ti : TypeId} (hok : TyOk P Ti t.1) {m' m2 ln lv : Lv} (hmm : Lv.le m' m = true) (hle' : latp p σ m' = some ln) (hlv : 0 < idxs p → lv = ln) (hn : t.1.flat = true ∨ Lv.le lv n = true)
  (hm2 : ∀ (w : World) (F : Nat → Prop) (x : σ.den) cs O, Rep P σ (lput p σ m' lv) w F x cs O ↔ Rep P σ m2 w F x cs O) :
  ∃ w1 F1 O1, (Instr.storeAt Ti (.pointer (some ⟨b, o, none⟩)) v).run P w = .ok () w1 ∧
   Fr P N w0 F0 G ((if t.1.flat then E1.killBor V else E1.kill V).set V (mkRoot bx m2 σ y)).at T w1 F1 O1 := by
 have hroot : ∃ cs0 l Ox, ((l = none ∧ VS σ (T.getD V undef) cs0 ∧ bx = false ∧ O V = Ox) ∨ ∃ b0 el, bx = true ∧ T.getD V undef = .pointer (some ⟨b0, 0, none⟩) ∧ w.heap[b0]? = some (.cells cs0.toArray el (0, 0)) ∧ l = some (b0, 0) ∧ O V = b0 :: Ox) ∧
   Rep P σ m w F x0 cs0 Ox ∧ Place w p σ cs0 l τ' cs' (some (b, o)) := by
  obtain ⟨τ, cs0, l, hro, hp⟩ := hpl
  have hVr := hf.rep V
  rw [hV] at hro hVr
  cases bx with
  | false =>
   obtain ⟨rfl, h1, rfl⟩ := hro
   obtain ⟨cs2, k1, k2⟩ := hVr
   obtain rfl := h1.inj k1
   exact ⟨_, _, _, .inl ⟨rfl, h1, rfl, rfl⟩, k2, hp⟩
  | true =>
   obtain ⟨rfl, b0, el, h1, h2, rfl⟩ := hro
   obtain ⟨b1, cs2, el2, Ox, k1, k2, k3, k4⟩ := hVr
   rw [h1] at k1
   simp only [Value.pointer.injEq, Option.some.injEq, Addr.mk.injEq, and_true] at k1
   subst k1
   rw [h2] at k2
   simp only [Option.some.injEq, Obj.cells.injEq, and_true] at k2
   have hc : cs0 = cs2 := by simpa using congrArg Array.toList k2.1
   subst hc
   exact ⟨_, _, _, .inr ⟨b0, el, rfl, h1, h2, rfl, k4⟩, k3, hp⟩
 obtain ⟨cs0, l, Ox, hcase, hrep, hp⟩ := hroot
 have hOx : ∀ c ∈ Ox, c ∈ O V := fun c hc => by
  rcases hcase with ⟨_, _, _, h⟩ | ⟨_, _, _, _, _, _, h⟩
  ·rw [h]; exact hc
  ·rw [h]; exact List.mem_cons_of_mem _ hc
 have hndx : Ox.Nodup := by
  have := hf.nodup V
  rcases hcase with ⟨_, _, _, h⟩ | ⟨_, _, _, _, _, _, h⟩
  ·rw [h] at this; exact this
  ·rw [h, List.nodup_cons] at this; exact this.2
 have hl0 : ∀ b0 o0, l = some (b0, o0) → o0 = 0 ∧ (∃ el, w.heap[b0]? = some (.cells cs0.toArray el (0, 0))) ∧ b0 ∉ Ox ∧ b0 ∈ O V := by
  intro b0 o0 hb0
  rcases hcase with ⟨h, _⟩ | ⟨b1, el, _, _, h1, h2, h3⟩
  ·rw [h] at hb0; simp at hb0
  ·rw [h2] at hb0
   simp only [Option.some.injEq, Prod.mk.injEq] at hb0
   obtain ⟨rfl, rfl⟩ := hb0
   have := hf.nodup V
   rw [h3, List.nodup_cons] at this
   exact ⟨rfl, ⟨el, h1⟩, this.1, by rw [h3]; exact List.mem_cons_self ..⟩
 obtain ⟨O', R, hperm, hlow⟩ := hrep.lower hmm
 have hO' : ∀ c ∈ O', c ∈ O V := fun c hc => hOx c (hperm.mem_iff.2 (List.mem_append_left _ hc))
 have hR : ∀ c ∈ R, c ∈ O V := fun c hc => hOx c (hperm.mem_iff.2 (List.mem_append_right _ hc))
 have hndp := hperm.nodup_iff.1 hndx
 have hk := hf.turn (V := V) (s := .dead) (On := []) rfl rfl ⟨List.nodup_nil, fun b hb => by cases hb⟩
 rw [← Env.kill_set] at hk
 have hnot : ∀ c ∈ O V, ∀ u, c ∉ (if u = V then [] else O u) := fun c hc u => by
  split
  ·simp
  ·rename_i hu; exact hf.apart V u (Ne.symm hu) c hc
 have hm := hk.more (R := R) fun c hc => by
  obtain ⟨h1, h2, h3⟩ := hf.own V c (hR c hc)
  exact ⟨h1, h2, hnot c (hR c hc)⟩
 have hext : Ext w F w (fun c => F c ∨ c ∈ R) := ⟨fun _ hc => .inl hc, fun _ _ => rfl, hm.lt⟩
 have hrep' := hlow _ hext fun c hc => .inr hc
 have hbO' : ∀ b0 o0, l = some (b0, o0) → b0 ∉ O' ∧ b0 ∉ R := fun b0 o0 hb0 =>
  ⟨fun hc => (hl0 b0 o0 hb0).2.2.1 (hperm.mem_iff.2 (List.mem_append_left _ hc)), fun hc => (hl0 b0 o0 hb0).2.2.1 (hperm.mem_iff.2 (List.mem_append_right _ hc))⟩
 obtain ⟨Or, Oc, hw, hor, hndo, hrc⟩ := hrep'.wand (List.nodup_append.1 hndp).1 hle' hp hg (fun b0 o0 hb0 => (hbO' b0 o0 hb0).1) fun b0 o0 hb0 => by
  obtain ⟨rfl, ⟨el, h1⟩, _⟩ := hl0 b0 o0 hb0
  exact ⟨at_heap h1, _, el, h1, Nat.zero_le _⟩
 have hfo : ∀ c ∈ O', ¬ (F c ∨ c ∈ R) := fun c hc hF => by
  rcases hF with hF | hF
  ·exact (hf.own V c (hO' c hc)).2.2 hF
  ·exact (List.nodup_append.1 hndp).2.2 c hc c hF rfl
 have hOtR : ∀ c ∈ Ot, c ∉ O V := fun c hc => (hft c hc).2.2.2 V
 have hftm : Free w0 w (fun c => F c ∨ c ∈ R) (fun u => if u = V then [] else O u) Ot := fun c hc => by
  obtain ⟨h1, h2, h3, h4⟩ := hft c hc
  refine ⟨h1, h2, fun hF => ?_, fun u => ?_⟩
  ·rcases hF with hF | hF
   ·exact h3 hF
   ·exact hOtR c hc (hR c hF)
  ·simp only []
   split
   ·simp
   ·exact h4 u
 have hrt := hr.mono hext fun c _ => BSame.of_heap rfl
 obtain ⟨w1, F1, csn, On, cur, el, hrun, hf1, q1, q2, q3, q4, q5, q6, q7, q8, q9, q10, q11, q12, q13, q14⟩ := wand_store hm hw hrep.length hndo
  (fun c hc => by
   obtain ⟨h1, h2, h3⟩ := hf.own V c (hO' c (hor c hc))
   exact ⟨h1, h2, hfo c (hor c hc), hnot c (hO' c (hor c hc))⟩)
  (fun b0 o0 hb0 => by
   obtain ⟨h0, hel, h1, h2⟩ := hl0 b0 o0 hb0
   obtain ⟨g1, g2, g3⟩ := hf.own V b0 h2
   exact ⟨h0, hel, fun hc => (hbO' b0 o0 hb0).1 (hor b0 hc), g1, fun hF => hF.elim g3 (hbO' b0 o0 hb0).2, hnot b0 h2⟩)
  hg htt hput hv hrt hndt hftm
  (fun c hc => ⟨fun hc' => hOtR c hc (hO' c (hor c hc')), fun o0 hb0 => hOtR c hc (hl0 c o0 hb0).2.2.2⟩) hle' hlv hn hp hok
 rw [hm2] at q1
 have hVN : V < slotN N := by
  refine slot_lt hf.size ?_
  rcases hcase with ⟨_, h, _⟩ | ⟨b1, el1, _, h, _⟩
  ·exact Rep.not_undef h hrep
  ·rw [h]; simp [undef]
 have hVu : (fun u => if u = V then ([] : List Nat) else O u) V = [] := by simp
 have hnew : ∃ Onw, SRep P G w1 F1 T ((E1.kill V).set V .dead).at (T.getD V undef) (mkRoot bx m2 σ y) Onw ∧ Onw.Nodup ∧ ∀ c ∈ Onw, ¬ w0.pr c ∧ c < w1.heap.size ∧ ¬ F1 c ∧ ∀ u, u ≠ V → c ∉ (if u = V then [] else O u) := by
  rcases hcase with ⟨hl, hvs, rfl, hOV⟩ | ⟨b1, el1, rfl, hT, hb1, hl, hOV⟩
  ·refine ⟨On, ⟨csn, by rw [q4 hl]; exact hvs, q1⟩, q2, fun c hc => ?_⟩
   obtain ⟨h1, h2, h3, h4⟩ := q3 c hc
   exact ⟨h1, h2, h3, fun u _ => h4 u⟩
  ·obtain ⟨⟨el2, k1⟩, k2, k3⟩ := q5 b1 0 hl
   refine ⟨b1 :: On, ⟨b1, csn, el2, On, hT, k1, q1, rfl⟩, List.nodup_cons.2 ⟨k2, q2⟩, fun c hc => ?_⟩
   rcases List.mem_cons.1 hc with rfl | hc
   ·have hcV : c ∈ O V := by rw [hOV]; exact List.mem_cons_self ..
    obtain ⟨g1, g2, g3⟩ := hf.own V c hcV
    exact ⟨g1, by rw [q6]; exact g2, k3, fun u _ => hnot c hcV u⟩
   ·obtain ⟨h1, h2, h3, h4⟩ := q3 c hc
    exact ⟨h1, h2, h3, fun u _ => h4 u⟩
 obtain ⟨Onw, hs, hnd, hon⟩ := hnew
 have hfin := hf1.relay hs mkRoot_roots hVN hnd hon
 by_cases hfl : t.1.flat = true
 ·rw [if_pos hfl]
  have hhdr : Hdr w w1 := by
   rw [q8]
   exact hdr_setRow q7 q9 q10 q11 (hr.flat_cells hfl) (by
    intro c hc
    refine hrc.flat_cells ?_ c hc
    rw [htt]; exact hfl)
  have hk1 : ∀ τ cs1 l1, RootAt w (E1.at V) (T.getD V undef) τ cs1 l1 → ∃ csn, RootAt w1 (mkRoot bx m2 σ y) (T.getD V undef) τ csn l1 ∧ HdrEqs cs1 csn := by
   intro τ cs1 l1 hro
   rw [hV] at hro
   rcases hcase with ⟨hl, hvs, rfl, hOV⟩ | ⟨b1, el1, rfl, hT, hb1, hl, hOV⟩
   ·obtain ⟨rfl, k1, rfl⟩ := hro
    exact ⟨cs1, ⟨rfl, k1, rfl⟩, HdrEqs.refl _⟩
   ·obtain ⟨rfl, b2, el2, k1, k2, rfl⟩ := hro
    rw [hT] at k1
    simp only [Value.pointer.injEq, Option.some.injEq, Addr.mk.injEq, and_true] at k1
    subst k1
    rw [hb1] at k2
    simp only [Option.some.injEq, Obj.cells.injEq, and_true] at k2
    have hc : cs0 = cs1 := by simpa using congrArg Array.toList k2.1
    subst hc
    obtain ⟨⟨el3, j1⟩, j2, j3⟩ := q5 b1 0 hl
    obtain ⟨cs2, i1, i2⟩ := (at_heap hb1).hdr hhdr
    have : cs2 = csn := i1.unique (at_heap j1) (by rw [← i2.1, q1.length, hrep.length])
    subst this
    exact ⟨cs2, ⟨rfl, b1, el3, hT, j1, rfl⟩, i2⟩
  have hk2 : (∃ m σ x, E1.at V = .v m σ x) ∨ ∃ m σ x, E1.at V = .box m σ x := by
   rw [hV]; cases bx
   ·exact .inl ⟨_, _, _, rfl⟩
   ·exact .inr ⟨_, _, _, rfl⟩
  obtain ⟨O2, hO2⟩ := hf.unkill hfin hhdr hk1 hk2 mkRoot_roots
  exact ⟨w1, F1, O2, hrun, hO2⟩
 ·rw [if_neg hfl]
  exact ⟨w1, F1, _, hrun, hfin⟩
theorem store_lv {τ σ : Ty} {p : List Step} {m n : Lv} (h : storeOk p σ m (storeLv τ p σ m n) n τ.flat = true) : ∃ m' ln lv, Lv.le m' m = true ∧ latp p σ m' = some ln ∧ (0 < idxs p → lv = ln) ∧ (τ.flat = true ∨ Lv.le lv n = true) ∧
  ∀ (w : World) (F : Nat → Prop) (x : σ.den) cs O, Rep P σ (lput p σ m' lv) w F x cs O ↔ Rep P σ (storeLv τ p σ m n) w F x cs O := by
 unfold storeOk at h
 unfold storeLv at h ⊢
 cases hf : τ.flat with
 | true =>
  simp only [hf] at h ⊢
  obtain ⟨ln, hl⟩ := Option.isSome_iff_exists.1 h
  exact ⟨m, ln, ln, Lv.le_refl m, hl, fun _ => rfl, .inl trivial, lput_self p hl⟩
 | false =>
  cases hi : Nat.ble 1 (idxs p) with
  | false =>
   simp only [hf, hi] at h ⊢
   obtain ⟨ln, hl⟩ := Option.isSome_iff_exists.1 h
   exact ⟨m, ln, n, Lv.le_refl m, hl, fun hc => absurd (Nat.ble_eq_true_of_le hc) (by rw [hi]; simp), .inr (Lv.le_refl n), fun _ _ _ _ _ => Iff.rfl⟩
  | true =>
   simp only [hf, hi, Bool.and_eq_true, Option.any_eq_true] at h ⊢
   obtain ⟨h1, ln, hl, h2⟩ := h
   exact ⟨_, ln, ln, h1, hl, fun _ => rfl, .inr h2, lput_self p hl⟩
theorem hol_lv {σ : Ty} {p : List Step} {m n : Lv} (h : (latp p σ m).any (fun k => !Nat.ble 1 (idxs p) || Lv.le k n) = true) : ∃ ln lv, latp p σ m = some ln ∧ (0 < idxs p → lv = ln) ∧ Lv.le lv n = true ∧
  ∀ (w : World) (F : Nat → Prop) (x : σ.den) cs O, Rep P σ (lput p σ m lv) w F x cs O ↔ Rep P σ (holLv p σ m n) w F x cs O := by
 simp only [Option.any_eq_true] at h
 obtain ⟨ln, hl, h⟩ := h
 unfold holLv
 cases hi : Nat.ble 1 (idxs p) with
 | false => exact ⟨ln, n, hl, fun hc => absurd (Nat.ble_eq_true_of_le hc) (by rw [hi]; simp), Lv.le_refl n, fun _ _ _ _ _ => Iff.rfl⟩
 | true =>
  simp only [hi, Bool.not_true, Bool.false_or] at h
  exact ⟨ln, ln, hl, fun _ => rfl, h, lput_self p hl⟩
theorem takeV_hol {E : Env} {Tx : Option Ty} {r : RS} (hrt : r.rt = (roots r.s).map E.at) {n : Lv} {t : TV} {E' : Env} (hev : takeV E Tx r = some (n, t, E')) {V : Nat} {bx : Bool} {m : Lv} {σ : Ty} {x : σ.den} {p : List Step} (hE : E.at V = .hol bx m σ x p) :
  E'.at V = .hol bx m σ x p ∨ E'.at V = .dead := by
 have kill : ∀ W, ((E.kill W).set W .dead).at V = .hol bx m σ x p ∨ ((E.kill W).set W .dead).at V = .dead := by
  intro W
  rw [Env.at_set]
  split
  ·exact .inr rfl
  ·rw [Env.at_kill, hE]; left; simp [rooted, roots]
 have hole : ∀ bx' W q s, E.at W ≠ .hol bx m σ x p → ((E.hole bx' W q).set W s).at V = .hol bx m σ x p := by
  intro bx' W q s hW
  have hne : V ≠ W := fun hc => hW (hc ▸ hE)
  rw [Env.at_set, if_neg hne, Env.at_hole, hE]
  simp [holeS, rooted, roots]
 unfold takeV at hev
 split at hev
 ·split at hev
  ·simp only [Option.some.injEq, Prod.mk.injEq] at hev; obtain ⟨rfl, rfl, rfl⟩ := hev; exact .inl hE
  ·simp at hev
 ·split at hev
  ·simp only [Option.some.injEq, Prod.mk.injEq] at hev; obtain ⟨rfl, rfl, rfl⟩ := hev; exact .inl hE
  ·simp at hev
 ·split at hev
  ·simp only [Option.some.injEq, Prod.mk.injEq] at hev; obtain ⟨rfl, rfl, rfl⟩ := hev; exact .inl hE
  ·split at hev
   ·simp only [Option.some.injEq, Prod.mk.injEq] at hev; obtain ⟨rfl, rfl, rfl⟩ := hev; exact .inl hE
   ·simp only [Option.some.injEq, Prod.mk.injEq] at hev; obtain ⟨rfl, rfl, rfl⟩ := hev; exact kill _
 ·simp only [Option.some.injEq, Prod.mk.injEq] at hev; obtain ⟨rfl, rfl, rfl⟩ := hev; exact kill _
 ·simp only [Option.some.injEq, Prod.mk.injEq] at hev; obtain ⟨rfl, rfl, rfl⟩ := hev; exact kill _
 ·simp only [roots, List.map_cons, List.map_nil, List.cons.injEq, and_true] at hrt
  split at hev
  ·split at hev
   ·split at hev
    ·simp only [Option.some.injEq, Prod.mk.injEq] at hev; obtain ⟨rfl, rfl, rfl⟩ := hev; exact .inl (hole _ _ _ _ (by rw [← hrt]; simp))
    ·simp at hev
   ·simp at hev
  ·simp at hev
 ·simp only [roots, List.map_cons, List.map_nil, List.cons.injEq, and_true] at hrt
  split at hev
  ·split at hev
   ·simp only [Option.some.injEq, Prod.mk.injEq] at hev; obtain ⟨rfl, rfl, rfl⟩ := hev; exact .inl (hole _ _ _ _ (by rw [← hrt]; simp))
   ·simp at hev
  ·simp at hev
 ·split at hev
  ·simp at hev
  ·simp only [Option.some.injEq, Prod.mk.injEq] at hev; obtain ⟨rfl, rfl, rfl⟩ := hev; exact kill _
 ·rename_i to W i rs
  simp only [roots, List.map_cons, List.map_nil, List.cons.injEq, and_true] at hrt
  split at hev
  ·simp only [Option.some.injEq, Prod.mk.injEq] at hev
   obtain ⟨rfl, rfl, rfl⟩ := hev
   have hne : V ≠ W := fun hc => by rw [← hc, hE] at hrt; simp at hrt
   rw [Env.at_set, if_neg hne]
   exact .inl hE
  ·simp at hev
 ·simp at hev
theorem evStore_sound {E E' : Env} (h : Fr P N w0 F0 G E.at a.tmps w F O) {tys : Tys} (ht : tys.ok P = true) {Ti : TypeId} {x r : RS} {va vx : Value} (ha : RSOk P G w F E.at a O x va) (hr : RSOk P G w F E.at a O r vx) {lp : List Prop}
  (hev : evStore tys E Ti x r = some (E', lp)) (hlp : ∀ q ∈ lp, q) : ∃ w1 F1 O1, (Instr.storeAt Ti va vx).run P w = .ok () w1 ∧ Fr P N w0 F0 G E'.at a.tmps w1 F1 O1 := by
 unfold evStore at hev
 split at hev
 ·simp at hev
 rename_i τ hT
 have hok := tyAt_ok ht hT
 split at hev
 ·simp at hev
 rename_i n t E1 htk
 split at hev
 rotate_left
 ·simp at hev
 rename_i htτ
 obtain ⟨O1, Ot, cs, hf, hv, hrp, hnd, ho, _⟩ := take_sound h hr htk
 have hat := takeV_at htk
 subst htτ
 split at hev
 ·
  rename_i V n0 τ' x' rt
  split at hev
  rotate_left
  ·simp at hev
  split at hev
  rotate_left
  ·simp at hev
  rename_i n1 σ x1 hV1
  split at hev
  rotate_left
  ·simp at hev
  rename_i hσ
  subst hσ
  simp only [Option.some.injEq, Prod.mk.injEq] at hev
  obtain ⟨rfl, rfl⟩ := hev
  obtain ⟨_, hva⟩ := ha.slot V rfl
  have hVr := hf.rep V
  rw [hV1] at hVr
  obtain ⟨b, cs0, el, Ox, hT0, hb, hrep, hOV⟩ := hVr
  rw [hva, hT0]
  have hlen : cs.length = cs0.length := by rw [hrp.length, hrep.length]
  have hrun := run_storeAt (o := 0) hok hb hv hrp (by simp [hrep.length])
  have hrow : (cs0.toArray.toList.take 0 ++ cs ++ cs0.toArray.toList.drop (0 + cs.length)) = cs := by simp [hlen]
  rw [hrow] at hrun
  have hbV : b ∈ O1 V := by rw [hOV]; exact List.mem_cons_self ..
  obtain ⟨g1, g2, g3⟩ := hf.own V b hbV
  have hk := hf.turn (V := V) (s := .dead) (On := []) rfl rfl ⟨List.nodup_nil, fun b hb => by cases hb⟩
  rw [← Env.kill_set] at hk
  have hnot : ∀ u, b ∉ (if u = V then [] else O1 u) := fun u => by
   split
   ·simp
   ·rename_i hu; exact hf.apart V u (Ne.symm hu) b hbV
  have hsame : ∀ c, c ≠ b → (w.setRow b cs.toArray).heap[c]? = w.heap[c]? := fun c hc => setRow_heap_other hc
  have hw := hk.world (w1 := w.setRow b cs.toArray) (Kept.setRow hk.below g1 _) (by rw [setRow_size]; exact Nat.le_refl _) (fun c hc => hsame c fun hcb => g3 (hcb ▸ hc)) (fun u c hc => hsame c fun hcb => hnot u (hcb ▸ hc))
  have hbt : b ∉ Ot := fun hc => (ho b hc).2.2.2 V hbV
  have hext : Ext w F (w.setRow b cs.toArray) F := ⟨fun _ hc => hc, fun c hc => hsame c fun hcb => g3 (hcb ▸ hc), hw.lt⟩
  have hrp1 := hrp.mono hext fun c hc => BSame.of_heap (hsame c fun hcb => hbt (hcb ▸ hc))
  have hfin := hw.relay (s := .box n t.1 t.2) (On := b :: Ot) ⟨b, cs, el, Ot, hT0, setRow_heap w b _ _ el (0, 0) hb, hrp1, rfl⟩ rfl (slot_lt hf.size (by rw [hT0]; simp [undef])) (List.nodup_cons.2 ⟨hbt, hnd⟩) fun c hc => by
   rcases List.mem_cons.1 hc with rfl | hc
   ·exact ⟨g1, by rw [setRow_size]; exact g2, g3, fun u _ => hnot u⟩
   ·obtain ⟨h1, h2, h3, h4⟩ := ho c hc
    refine ⟨h1, by rw [setRow_size]; exact h2, h3, fun u hu => ?_⟩
    simp only [hu, if_false]
    exact h4 u
  exact ⟨_, F, _, hrun, hfin⟩
 ·
  rename_i V p rt
  split at hev
  rotate_left
  ·simp at hev
  obtain ⟨⟨Or, ⟨_, b, o, τ', cs', hva, hpl⟩, _⟩, _, _⟩ := ha
  subst hva
  have hfree : Free w0 w F O1 Ot := ho
  split at hev
  ·rename_i m σ x0 hV1
   split at hev
   rotate_left
   ·simp at hev
   rename_i t' y hg hput
   split at hev
   rotate_left
   ·simp at hev
   rename_i hc
   simp only [Bool.and_eq_true, decide_eq_true_eq] at hc
   simp only [Option.some.injEq, Prod.mk.injEq] at hev
   obtain ⟨rfl, rfl⟩ := hev
   have hVE := (hat V).1 _ _ _ hV1
   rw [hVE, ← hV1] at hpl
   obtain ⟨m', ln, lv, l1, l2, l3, l4, l5⟩ := store_lv (P := P) hc.2
   exact store_ref (bx := false) hf hV1 hpl hg hc.1.1 hput hv hrp hnd hfree hok l1 l2 l3 l4 l5
  ·rename_i m σ x0 hV1
   split at hev
   rotate_left
   ·simp at hev
   rename_i t' y hg hput
   split at hev
   rotate_left
   ·simp at hev
   rename_i hc
   simp only [Bool.and_eq_true, decide_eq_true_eq] at hc
   simp only [Option.some.injEq, Prod.mk.injEq] at hev
   obtain ⟨rfl, rfl⟩ := hev
   have hVE := (hat V).2 _ _ _ hV1
   rw [hVE, ← hV1] at hpl
   obtain ⟨m', ln, lv, l1, l2, l3, l4, l5⟩ := store_lv (P := P) hc.2
   exact store_ref (bx := true) hf hV1 hpl hg hc.1 hput hv hrp hnd hfree hok l1 l2 l3 l4 l5
  ·simp at hev
 ·
  rename_i V l rt
  split at hev
  rotate_left
  ·simp at hev
  rename_i bx m σ x0 p hV1
  split at hev
  rotate_left
  ·simp at hev
  rename_i t' y hg hput
  split at hev
  rotate_left
  ·simp at hev
  rename_i hc
  simp only [Bool.and_eq_true, decide_eq_true_eq] at hc
  simp only [Option.some.injEq, Prod.mk.injEq] at hev
  obtain ⟨rfl, rfl⟩ := hev
  obtain ⟨⟨Or, ⟨_, hh⟩, _⟩, _, _⟩ := ha
  obtain ⟨bx1, n1, σ1, x1, p1, b, o, τ', cs0, cs', l', hVE, hva, hrh, hpl⟩ := hh (AllP_iff.2 hlp)
  subst hva
  have heq := takeV_hol hr.rt htk hVE
  rw [hV1] at heq
  rcases heq with heq | heq
  rotate_left
  ·simp at heq
  injection heq with e1 e2 e3 e4 e5
  subst e1; subst e2; subst e3; subst e5
  have e4' := eq_of_heq e4
  subst e4'
  have hVr := hf.rep V
  rw [hV1] at hVr
  have hk := hf.turn (V := V) (s := .dead) (On := []) rfl rfl ⟨List.nodup_nil, fun b hb => by cases hb⟩
  rw [← Env.kill_set] at hk
  have hnot : ∀ c ∈ O1 V, ∀ u, c ∉ (if u = V then [] else O1 u) := fun c hc u => by
   split
   ·simp
   ·rename_i hu; exact hf.apart V u (Ne.symm hu) c hc
  have hOtV : ∀ c ∈ Ot, c ∉ O1 V := fun c hc => (ho c hc).2.2.2 V
  have hftm : Free w0 w F (fun u => if u = V then [] else O1 u) Ot := fun c hc => by
   obtain ⟨h1, h2, h3, h4⟩ := ho c hc
   refine ⟨h1, h2, h3, fun u => ?_⟩
   simp only []
   split
   ·simp
   ·exact h4 u
  obtain ⟨ln, lv, l1, l2, l3, l4⟩ := hol_lv (P := P) hc.2
  have hn : t.1.flat = true ∨ Lv.le lv n = true := .inr l3
  cases bx with
  | false =>
   obtain ⟨cs1, k1, k2, k3, hw⟩ := hVr
   obtain ⟨hvs, rfl⟩ := hrh
   obtain rfl := hvs.inj k1
   obtain ⟨w1, F1, csn, On, cur, el, hrun, hf1, q1, q2, q3, q4, q5, q6, _⟩ := wand_store hk hw k2 (hf.nodup V) (fun c hc => by
     obtain ⟨h1, h2, h3⟩ := hf.own V c hc
     exact ⟨h1, h2, h3, hnot c hc⟩) (fun b0 o0 hb0 => by simp at hb0) hg hc.1 hput hv hrp hnd hftm (fun c hc => ⟨hOtV c hc, fun o0 hb0 => by simp at hb0⟩) l1 l2 hn hpl hok
   rw [l4] at q1
   have hvu : a.tmps.getD V undef ≠ undef := by
    have q1' := q1
    rw [q4 rfl] at q1'
    exact Rep.not_undef hvs q1'
   exact ⟨w1, F1, _, hrun, hf1.relay (s := .v (holLv p σ m n) σ y) ⟨csn, by rw [q4 rfl]; exact hvs, q1⟩ rfl (slot_lt hf.size hvu) q2 fun c hc => by
    obtain ⟨h1, h2, h3, h4⟩ := q3 c hc
    exact ⟨h1, h2, h3, fun u _ => h4 u⟩⟩
  | true =>
   obtain ⟨b1, cs1, el1, Ox, k1, k2, k3, hw, hOV⟩ := hVr
   obtain ⟨b2, el2, j1, j2, rfl⟩ := hrh
   rw [k1] at j1
   simp only [Value.pointer.injEq, Option.some.injEq, Addr.mk.injEq, and_true] at j1
   subst j1
   rw [k2] at j2
   simp only [Option.some.injEq, Obj.cells.injEq, and_true] at j2
   have hc' : cs1 = cs0 := by simpa using congrArg Array.toList j2.1
   subst hc'
   have hndV := hf.nodup V
   rw [hOV, List.nodup_cons] at hndV
   have hOxV : ∀ c ∈ Ox, c ∈ O1 V := fun c hc => by rw [hOV]; exact List.mem_cons_of_mem _ hc
   have hb1V : b1 ∈ O1 V := by rw [hOV]; exact List.mem_cons_self ..
   obtain ⟨w1, F1, csn, On, cur, el, hrun, hf1, q1, q2, q3, q4, q5, q6, _⟩ := wand_store hk hw k3 hndV.2 (fun c hc => by
     obtain ⟨h1, h2, h3⟩ := hf.own V c (hOxV c hc)
     exact ⟨h1, h2, h3, hnot c (hOxV c hc)⟩) (fun b0 o0 hb0 => by
     simp only [Option.some.injEq, Prod.mk.injEq] at hb0
     obtain ⟨rfl, rfl⟩ := hb0
     obtain ⟨h1, h2, h3⟩ := hf.own V b1 hb1V
     exact ⟨rfl, ⟨el1, k2⟩, hndV.1, h1, h3, hnot b1 hb1V⟩) hg hc.1 hput hv hrp hnd hftm (fun c hc => ⟨fun hc' => hOtV c hc (hOxV c hc'), fun o0 hb0 => by
     simp only [Option.some.injEq, Prod.mk.injEq] at hb0
     exact hOtV c hc (hb0.1 ▸ hb1V)⟩) l1 l2 hn hpl hok
   rw [l4] at q1
   obtain ⟨⟨el3, i1⟩, i2, i3⟩ := q5 b1 0 rfl
   exact ⟨w1, F1, _, hrun, hf1.relay (s := .box (holLv p σ m n) σ y) (On := b1 :: On) ⟨b1, csn, el3, On, k1, i1, q1, rfl⟩ rfl (slot_lt hf.size (by rw [k1]; simp [undef])) (List.nodup_cons.2 ⟨i2, q2⟩) fun c hc => by
    rcases List.mem_cons.1 hc with rfl | hc
    ·obtain ⟨h1, h2, h3⟩ := hf.own V c hb1V
     exact ⟨h1, by rw [q6]; exact h2, i3, fun u _ => hnot c hb1V u⟩
    ·obtain ⟨h1, h2, h3, h4⟩ := q3 c hc
     exact ⟨h1, h2, h3, fun u _ => h4 u⟩⟩
 ·simp at hev
end
end Go.Tom
set_option linter.unusedVariables false
set_option linter.unusedSimpArgs false
namespace Go.Tom
open Go
theorem flatten_len {α : Type} {sz : Nat} : ∀ {css : List (List α)}, (∀ i (h : i < css.length), css[i].length = sz) → css.flatten.length = css.length * sz
 | [], _ => by simp
 | c :: css, h => by
  have h0 := h 0 (by simp)
  simp only [List.getElem_cons_zero] at h0
  rw [List.flatten_cons, List.length_append, h0, flatten_len fun i hi => h (i + 1) (Nat.succ_lt_succ hi)]
  simp [Nat.add_mul, Nat.add_comm]
theorem at_flatten {w : World} {b : Nat} {sz : Nat} : ∀ {css : List (List Value)} {o : Nat}, (∀ i (h : i < css.length), css[i].length = sz) → (∀ i (h : i < css.length), At w b (o + i * sz) css[i]) → At w b o css.flatten
 | [], o, _, _ => fun j hj => absurd hj (by simp)
 | c :: css, o, h, hat => by
  rw [List.flatten_cons, At.append]
  have h0 := h 0 (by simp)
  simp only [List.getElem_cons_zero] at h0
  refine ⟨?_, at_flatten (fun i hi => h (i + 1) (Nat.succ_lt_succ hi)) fun i hi => ?_⟩
  ·have := hat 0 (Nat.succ_pos _)
   rw [Nat.zero_mul, Nat.add_zero] at this
   exact this
  have := hat (i + 1) (by simpa using hi)
  simp only [List.getElem_cons_succ] at this
  rw [h0]
  rwa [Nat.add_mul, Nat.one_mul, Nat.add_comm (i * sz), ← Nat.add_assoc] at this
section
variable {P : Program} {N : Nat} {w0 : Start} {w : World} {F0 F : Nat → Prop} {G : Nat × Bool → Bool} {e : Nat → S} {a : Act} {T : Array Value} {O : Nat → List Nat}
theorem run_first {sz n len cap : Nat} {xb : Option Addr} {news : List Value} (hl : news.length = n * sz) (hz : n = 0 → news = []) (hn : xb = none → n = 0) (hc : ∀ b o, xb = some ⟨b, o, none⟩ → At w b o news) (hx : n ≠ 0 → ∃ b o, xb = some ⟨b, o, none⟩) :
  (Builtin.firstCells sz n (.slice xb len cap)).run P w = .ok news.toArray w := by
 cases xb with
 | none => have := hn rfl; rw [hz this]; exact run_firstCells_none w sz n len cap
 | some ad =>
  refine run_firstCells_some (P := P) w sz n ad len cap news hl fun j v hj => ?_
  by_cases h0 : n = 0
  ·rw [hz h0] at hj; simp at hj
  ·obtain ⟨b, o, hbo⟩ := hx h0
   obtain rfl := Option.some.inj hbo
   have hlt : j < news.length := by
    rcases Nat.lt_or_ge j news.length with h | h
    ·exact h
    ·rw [List.getElem?_eq_none h] at hj; simp at hj
   rw [add_at]
   rw [List.getElem?_eq_getElem hlt] at hj
   rw [hc b o rfl j hlt, ← hj]
structure RowAt (w : World) (sz : Nat) (xb : Option Addr) (n : Nat) (news : List Value) : Prop where
 len : news.length = n * sz
 addr : n ≠ 0 → ∃ b o, xb = some ⟨b, o, none⟩
 cells : ∀ b o, xb = some ⟨b, o, none⟩ → At w b o news
theorem RowAt.first {sz n len cap : Nat} {xb : Option Addr} {news : List Value} (h : RowAt w sz xb n news) : (Builtin.firstCells sz n (.slice xb len cap)).run P w = .ok news.toArray w :=
 run_first h.len (fun hn => List.eq_nil_of_length_eq_zero (by rw [h.len, hn, Nat.zero_mul])) (fun hx => by
  rcases Nat.eq_zero_or_pos n with hn | hn
  ·exact hn
  ·obtain ⟨b, o, hb⟩ := h.addr (by omega); rw [hx] at hb; simp at hb) h.cells h.addr
theorem RowAt.drew {sz n : Nat} {xb : Option Addr} {news : List Value} (h : RowAt w sz xb n news) : RowAt w.drew sz xb n news := ⟨h.len, h.addr, fun b o hb j hj => h.cells b o hb j hj⟩
theorem limF_le (e : Ty) : limF e ≤ 2932031007402 := by
 unfold limF
 split
 ·exact Int.le_refl _
 ·exact Int.le_refl _
 ·decide
theorem limF_fits {e : Ty} {n b : Nat} (hn : (n : Int) ≤ limF e) (hb : b ≤ 65536 ∧ b ≤ 24 * e.sz) : n * b ≤ 140737488355328 := by
 unfold limF at hn
 split at hn
 ·have h1 : n ≤ 2932031007402 := by unfold limQ at hn; omega
  have h2 : b ≤ 48 := by simp only [Ty.sz] at hb; omega
  exact Nat.le_trans (Nat.mul_le_mul h1 h2) (by decide)
 ·have h1 : n ≤ 2932031007402 := by unfold limQ at hn; omega
  have h2 : b ≤ 48 := by simp only [Ty.sz] at hb; omega
  exact Nat.le_trans (Nat.mul_le_mul h1 h2) (by decide)
 ·have h1 : n ≤ 2147483648 := by unfold limA at hn; omega
  exact Nat.le_trans (Nat.mul_le_mul h1 hb.1) (by decide)
theorem run_append_new {Ti T2 ty E : TypeId} {e1 : Ty} (hok : P.underlying Ti = some (.slice E)) (hE : TyOk P E e1) (hd : e1.data = true) {E2 : TypeId} (hok2 : P.underlying T2 = some (.slice E2)) {base xb : Option Addr} {sLen sCap n xc : Nat} {olds news : List Value} (hx : RowAt w e1.sz base sLen olds) (hy : RowAt w e1.sz xb n news)
  (hlim : ((sLen + n : Nat) : Int) ≤ limF e1) (hg : sCap < sLen + n) : ∃ cap rest, (Builtin.append_ #[Ti, T2] ty #[.slice base sLen sCap, .slice xb n xc]).run P w = .ok (.slice (some ⟨w.heap.size, 0, none⟩) (sLen + n) cap) (w.drew.alloc (.cells (olds ++ news ++ rest).toArray E)) ∧ sLen + n ≤ cap ∧ rest.length = (cap - (sLen + n)) * e1.sz := by
 obtain ⟨inf, hi, hsz, hby, hzz⟩ := hE.info
 obtain ⟨z, hz1, hz2⟩ := hzz hd
 have hzc : z.cells.toList = zeroCells e1 := hz2.cells (Rep.zero (P := P) (n := 0) (w := w) (F := fun _ => False) hd)
 have hzl : (zeroCells e1).length = e1.sz := (Rep.zero (P := P) (n := 0) (w := w) (F := fun _ => False) hd).length
 have hzs : z.cells.size = e1.sz := by rw [← Array.length_toList, hzc, hzl]
 have h1 : ¬ (sLen + n ≤ sCap) := by omega
 have hle1 := limF_le e1
 have h63 : ¬ (9223372036854775807 < ((sLen : Int) + (n : Int))) := by omega
 have hfit := growslice_fits (bytes := inf.bytes) hg (limF_fits hlim hby)
 have h48 : ¬ (281474976710656 < Builtin.nextslicecap (sLen + n) sCap * inf.bytes) := by omega
 have hf := hy.drew.first (P := P) (len := n) (cap := xc)
 have hfo := hx.drew.first (P := P) (len := sLen) (cap := sCap)
 rw [← hsz] at hf hfo
 refine ⟨grownCap w (sLen + n) sCap E, (Builtin.zeroCells z.cells (grownCap w (sLen + n) sCap E - (sLen + n))).toList, ?_, grownCap_ge w _ _ _, by rw [Array.length_toList, size_zeroCells, hzs]⟩
 simp [Builtin.append_, run_underlying hok, run_underlying hok2, sizeOf, typeInfo, zeroValue, hi, hz1, Builtin.lenOf, h1, h63, h48, Question.forced, hf, hfo, newRow, grownCap]
 congr 2
 apply Array.ext'
 simp [List.append_assoc]
theorem run_append_in {Ti T2 ty E : TypeId} {e1 : Ty} (hok : P.underlying Ti = some (.slice E)) (hE : TyOk P E e1) {E2 : TypeId} (hok2 : P.underlying T2 = some (.slice E2)) {xb : Option Addr} {b o sLen sCap n xc : Nat} {news : List Value} (hy : RowAt w e1.sz xb n news)
  (hg : sLen + n ≤ sCap) {cur : Array Value} {el : TypeId} (hb : w.heap[b]? = some (.cells cur el (0, 0))) (hcur : o + sCap * e1.sz ≤ cur.size) (h1 : ∀ v ∈ news, v.oneCell' = true) :
  (Builtin.append_ #[Ti, T2] ty #[.slice (some ⟨b, o, none⟩) sLen sCap, .slice xb n xc]).run P w = .ok (.slice (some ⟨b, o, none⟩) (sLen + n) sCap) (w.setRow b (cur.toList.take (o + sLen * e1.sz) ++ news ++ cur.toList.drop (o + sLen * e1.sz + news.length)).toArray) := by
 obtain ⟨inf, hi, hsz, hby, hzz⟩ := hE.info
 have hf := hy.first (P := P) (len := n) (cap := xc)
 have hle : o + sLen * e1.sz + news.length ≤ cur.size := by
  rw [hy.len]
  have : (sLen + n) * e1.sz ≤ sCap * e1.sz := Nat.mul_le_mul_right _ hg
  rw [Nat.add_mul] at this
  omega
 have hst := run_storeCells_at P b (o + sLen * e1.sz) el news 0 cur w hb (by omega) h1
 simp only [Nat.add_zero] at hst
 simp [Builtin.append_, run_underlying hok, run_underlying hok2, sizeOf, typeInfo, hi, Builtin.lenOf, hg, hsz, hf, add_at, hst]
theorem run_append_none {Ti T2 ty E : TypeId} {e1 : Ty} (hok : P.underlying Ti = some (.slice E)) (hE : TyOk P E e1) {E2 : TypeId} (hok2 : P.underlying T2 = some (.slice E2)) {base xb : Option Addr} {xc : Nat} (hy : RowAt w e1.sz xb 0 []) :
  (Builtin.append_ #[Ti, T2] ty #[.slice base 0 0, .slice xb 0 xc]).run P w = .ok (.slice base 0 0) w := by
 obtain ⟨inf, hi, hsz, hby, hzz⟩ := hE.info
 have hf := hy.first (P := P) (len := 0) (cap := xc)
 rw [← hsz] at hf
 cases base <;> simp [Builtin.append_, run_underlying hok, run_underlying hok2, sizeOf, typeInfo, hi, Builtin.lenOf, hf, storeCells]
structure Tail (P : Program) (w : World) (F : Nat → Prop) (e1 : Ty) (m : Nat) (ys : List e1.den) (xb : Option Addr) (css : List (List Value)) (Os : List (List Nat)) : Prop where
 clen : css.length = ys.length
 olen : Os.length = ys.length
 rep : ∀ i (h : i < ys.length) (h1 : i < css.length) (h2 : i < Os.length), Rep P e1 (.n m) w F ys[i] css[i] Os[i] ∧ css[i].length = e1.sz
 addr : ys ≠ [] → ∃ b o, xb = some ⟨b, o, none⟩ ∧ ∀ i (h1 : i < css.length), At w b (o + i * e1.sz) css[i]
theorem Tail.row {e1 : Ty} {m : Nat} {ys : List e1.den} {xb : Option Addr} {css : List (List Value)} {Os : List (List Nat)} (h : Tail P w F e1 m ys xb css Os) : RowAt w e1.sz xb ys.length css.flatten := by
 have hl : ∀ i (h1 : i < css.length), css[i].length = e1.sz := fun i h1 => (h.rep i (by rw [← h.clen]; exact h1) h1 (by rw [h.olen, ← h.clen]; exact h1)).2
 refine ⟨by rw [flatten_len hl, h.clen], fun hn => ?_, fun b o hb => ?_⟩
 ·obtain ⟨b, o, hb, _⟩ := h.addr fun hc => hn (by rw [hc]; rfl)
  exact ⟨b, o, hb⟩
 ·by_cases hn : ys = []
  ·have : css = [] := List.eq_nil_of_length_eq_zero (by rw [h.clen, hn]; rfl)
   subst this
   exact fun j hj => absurd hj (by simp)
  ·obtain ⟨b', o', hb', hat⟩ := h.addr hn
   rw [hb] at hb'
   simp only [Option.some.injEq, Addr.mk.injEq, and_true] at hb'
   obtain ⟨rfl, rfl⟩ := hb'
   exact at_flatten hl hat
theorem Tail.mono {e1 : Ty} {m : Nat} {ys : List e1.den} {xb : Option Addr} {css : List (List Value)} {Os : List (List Nat)} (h : Tail P w F e1 m ys xb css Os) {F' : Nat → Prop} (he : Ext w F w F') : Tail P w F' e1 m ys xb css Os :=
 ⟨h.clen, h.olen, fun i a b c => ⟨(h.rep i a b c).1.mono he fun _ _ => BSame.of_heap rfl, (h.rep i a b c).2⟩, h.addr⟩
theorem append_core (hf : Fr P N w0 F0 G e T w F O) {Ti T2 ty E : TypeId} {e1 : Ty} (hok : P.underlying Ti = some (.slice E)) (hE : TyOk P E e1) (hd : e1.data = true) {E2 : TypeId} (hok2 : P.underlying T2 = some (.slice E2)) {m : Nat} {xs ys : List e1.den} {ax xb : Option Addr} {capx xc : Nat} {Ox : List Nat}
  (hx : Rep P (.slice e1) (.n (m + 1)) w F xs [.slice ax xs.length capx] Ox) (hndx : Ox.Nodup) (hfx : Free w0 w F O Ox) {css : List (List Value)} {Os : List (List Nat)} (hy : Tail P w F e1 m ys xb css Os) (hndy : Os.flatten.Nodup) (hfy : Free w0 w F O Os.flatten)
  (hdis : ∀ c ∈ Ox, c ∉ Os.flatten) (hlim : ((xs.length + ys.length : Nat) : Int) ≤ limF e1) :
  ∃ ar capr w1 On, (Builtin.append_ #[Ti, T2] ty #[.slice ax xs.length capx, .slice xb ys.length xc]).run P w = .ok (.slice ar (xs.length + ys.length) capr) w1 ∧ Fr P N w0 F0 G e T w1 F O ∧
   Rep P (.slice e1) (.n (m + 1)) w1 F (xs ++ ys) [.slice ar (xs.length + ys.length) capr] On ∧ On.Nodup ∧ Free w0 w1 F O On := by
 obtain ⟨ad, cap, cssx, Osx, hcs, hcap, hcl, hol, hr, hs⟩ := hx
 simp only [List.cons.injEq, Value.slice.injEq, and_true, true_and] at hcs
 obtain ⟨rfl, rfl⟩ := hcs
 have hlx : ∀ i (h1 : i < cssx.length), cssx[i].length = e1.sz := fun i h1 => (hr i (by omega) h1 (by omega)).2
 have hly : ∀ i (h1 : i < css.length), css[i].length = e1.sz := fun i h1 => (hy.rep i (by rw [← hy.clen]; exact h1) h1 (by rw [hy.olen, ← hy.clen]; exact h1)).2
 have hrow := hy.row
 have hone : ∀ v ∈ css.flatten, v.oneCell' = true := by
  intro v hv
  obtain ⟨c, hc, hv⟩ := List.mem_flatten.1 hv
  obtain ⟨i, hi, rfl⟩ := List.getElem_of_mem hc
  exact (hy.rep i (by rw [← hy.clen]; exact hi) hi (by rw [hy.olen, ← hy.clen]; exact hi)).1.oneCell v hv
 have hyc := hy.clen
 have hyo := hy.olen
 have hOsx : ∀ i (h : i < Osx.length), ∀ c ∈ Osx[i], c ∈ Osx.flatten := fun i h c hc => List.mem_flatten.2 ⟨_, List.getElem_mem h, hc⟩
 have hOsy : ∀ i (h : i < Os.length), ∀ c ∈ Os[i], c ∈ Os.flatten := fun i h c hc => List.mem_flatten.2 ⟨_, List.getElem_mem h, hc⟩
 have elems : ∀ w1, Ext w F w1 F → (∀ c ∈ Osx.flatten, BSame w w1 c) → (∀ c ∈ Os.flatten, BSame w w1 c) → ∀ i (h : i < (xs ++ ys).length) (h1 : i < (cssx ++ css).length) (h2 : i < (Osx ++ Os).length),
   Rep P e1 (.n (m + 1 - 1)) w1 F (xs ++ ys)[i] (cssx ++ css)[i] (Osx ++ Os)[i] ∧ (cssx ++ css)[i].length = e1.sz := by
  intro w1 he hbx hby i h h1 h2
  by_cases hi : i < xs.length
  ·rw [List.getElem_append_left hi, List.getElem_append_left (by omega), List.getElem_append_left (by omega)]
   obtain ⟨k1, k2⟩ := hr i hi (by omega) (by omega)
   exact ⟨k1.mono he fun c hc => hbx c (hOsx _ _ c hc), k2⟩
  ·rw [List.getElem_append_right (by omega), List.getElem_append_right (by omega), List.getElem_append_right (by omega)]
   simp only [List.length_append] at h
   have e1' : i - cssx.length = i - xs.length := by omega
   have e2' : i - Osx.length = i - xs.length := by omega
   simp only [e1', e2']
   obtain ⟨k1, k2⟩ := hy.rep (i - xs.length) (by omega) (by omega) (by omega)
   exact ⟨k1.mono he fun c hc => hby c (hOsy _ _ c hc), k2⟩
 have hlxy : ∀ i (h1 : i < (cssx ++ css).length), (cssx ++ css)[i].length = e1.sz := by
  intro i h1
  by_cases hi : i < cssx.length
  ·rw [List.getElem_append_left hi]; exact hlx i hi
  ·rw [List.getElem_append_right (by omega)]; exact hly _ _
 have hflat : (Osx ++ Os).flatten = Osx.flatten ++ Os.flatten := List.flatten_append
 have hcflat : (cssx ++ css).flatten = cssx.flatten ++ css.flatten := List.flatten_append
 have hlen : (xs ++ ys).length = xs.length + ys.length := List.length_append
 have grow : ∀ (hg : capx < xs.length + ys.length) (hxr : RowAt w e1.sz ax xs.length cssx.flatten) (hsub : ∀ c ∈ Osx.flatten, c ∈ Ox) (hndo : Osx.flatten.Nodup), ∃ ar capr w1 On, (Builtin.append_ #[Ti, T2] ty #[.slice ax xs.length capx, .slice xb ys.length xc]).run P w = .ok (.slice ar (xs.length + ys.length) capr) w1 ∧ Fr P N w0 F0 G e T w1 F O ∧
   Rep P (.slice e1) (.n (m + 1)) w1 F (xs ++ ys) [.slice ar (xs.length + ys.length) capr] On ∧ On.Nodup ∧ Free w0 w1 F O On := by
  intro hg hxr hsub hndo
  obtain ⟨cp, rest, hrun, hcp, hrest⟩ := run_append_new (ty := ty) (xc := xc) hok hE hd hok2 hxr hrow hlim hg
  have hold : Older w (w.drew.alloc (.cells (cssx.flatten ++ css.flatten ++ rest).toArray E)) := fun b hb => RowKit.Below.heap_alloc w.drew _ b hb
  have hsz1 : (w.drew.alloc (.cells (cssx.flatten ++ css.flatten ++ rest).toArray E)).heap.size = w.heap.size + 1 := by rw [World.size_alloc]; rfl
  have hb0 : Kept w0 w.drew := hf.below.drew
  have hw := hf.world (w1 := w.drew.alloc (.cells (cssx.flatten ++ css.flatten ++ rest).toArray E)) (hb0.alloc _) (by rw [hsz1]; omega) (fun b hb => hold b (hf.lt b hb)) (fun u b hb => hold b (hf.own u b hb).2.1)
  have hext : Ext w F (w.drew.alloc (.cells (cssx.flatten ++ css.flatten ++ rest).toArray E)) F := ⟨fun _ hb => hb, fun b hb => hold b (hf.lt b hb), hw.lt⟩
  have hnew : (w.drew.alloc (.cells (cssx.flatten ++ css.flatten ++ rest).toArray E)).heap[w.heap.size]? = some (.cells (cssx.flatten ++ css.flatten ++ rest).toArray E (0, 0)) := alloc_heap (w := w.drew)
  have hat := at_heap hnew
  rw [At.append] at hat
  have hat1 := hat.1
  have hats := flatten_at hlxy (by rw [hcflat]; exact hat1)
  refine ⟨_, cp, _, w.heap.size :: (Osx ++ Os).flatten, hrun, hw, ⟨some ⟨w.heap.size, 0, none⟩, cp, cssx ++ css, Osx ++ Os, by rw [hlen], by rw [hlen]; exact hcp, by simp [hcl, hyc], by simp [hol, hyo],
   elems _ hext (fun c hc => hold.same (hfx c (hsub c hc)).2.1) (fun c hc => hold.same (hfy c hc).2.1), .inr (.inr ⟨Nat.succ_pos _, w.heap.size, 0, rfl, hats, ⟨_, E, hnew, ?_⟩, rfl⟩)⟩, ?_, ?_⟩
  ·simp only [List.size_toArray, List.length_append, hrest, hrow.len, hxr.len]
   rw [← Nat.add_mul, ← Nat.add_mul, Nat.zero_add]
   exact Nat.mul_le_mul_right _ (by omega)
  ·rw [List.nodup_cons, hflat]
   refine ⟨fun hc => ?_, List.nodup_append.2 ⟨hndo, hndy, fun c hc c' hc' hcc => hdis c (hsub c hc) (hcc ▸ hc')⟩⟩
   rcases List.mem_append.1 hc with hc | hc
   ·have := (hfx _ (hsub _ hc)).2.1; omega
   ·have := (hfy _ hc).2.1; omega
  ·intro c hc
   rcases List.mem_cons.1 hc with rfl | hc
   ·refine ⟨hf.below.new (Nat.le_refl _), by rw [hsz1]; omega, fun hF => by have := hf.lt _ hF; omega, fun u hu => by have := (hf.own u _ hu).2.1; omega⟩
   ·rw [hflat] at hc
    rcases List.mem_append.1 hc with hc | hc
    ·obtain ⟨h1, h2, h3, h4⟩ := hfx c (hsub c hc)
     exact ⟨h1, by rw [hsz1]; omega, h3, h4⟩
    ·obtain ⟨h1, h2, h3, h4⟩ := hfy c hc
     exact ⟨h1, by rw [hsz1]; omega, h3, h4⟩
 rcases hs with ⟨hn0, _⟩ | ⟨_, hc0, rfl⟩ | ⟨_, b, o, rfl, hat, hown, rfl⟩
 ·exact absurd hn0 (Nat.succ_ne_zero _)
 ·
  subst hc0
  have hxe : xs = [] := List.eq_nil_of_length_eq_zero (by omega)
  subst hxe
  have hce : cssx = [] := List.eq_nil_of_length_eq_zero (by simpa using hcl)
  have hoe : Osx = [] := List.eq_nil_of_length_eq_zero (by simpa using hol)
  subst hce; subst hoe
  by_cases hye : ys = []
  ·subst hye
   have hcse : css = [] := List.eq_nil_of_length_eq_zero (by simpa using hyc)
   subst hcse
   have hrun := run_append_none (ty := ty) (base := ax) (xc := xc) hok hE hok2 hrow
   exact ⟨ax, 0, w, [], hrun, hf, ⟨ax, 0, [], [], rfl, Nat.le_refl _, rfl, rfl, fun i hi => absurd hi (by simp), .inr (.inl ⟨by omega, rfl, rfl⟩)⟩, List.nodup_nil, fun c hc => by cases hc⟩
  ·have hpos : 0 < ys.length := List.length_pos_iff.2 hye
   exact grow (by simpa using hpos) ⟨by simp, fun h => absurd rfl h, fun b o _ j hj => absurd hj (by simp)⟩ (fun c hc => by simp at hc) (by simp)
 ·have hndx' := List.nodup_cons.1 hndx
  by_cases hg : xs.length + ys.length ≤ capx
  ·
   obtain ⟨cur, el, hb, hcur⟩ := hown
   have hrun := run_append_in (ty := ty) (xc := xc) (sLen := xs.length) hok hE hok2 hrow hg hb hcur hone
   have hle : o + xs.length * e1.sz + css.flatten.length ≤ cur.size := by
    rw [hrow.len]
    have : (xs.length + ys.length) * e1.sz ≤ capx * e1.sz := Nat.mul_le_mul_right _ hg
    rw [Nat.add_mul] at this
    omega
   have hch := chg_setRow hb hle
   obtain ⟨w1, hw1⟩ : ∃ w1, w1 = w.setRow b (cur.toList.take (o + xs.length * e1.sz) ++ css.flatten ++ cur.toList.drop (o + xs.length * e1.sz + css.flatten.length)).toArray := ⟨_, rfl⟩
   rw [← hw1] at hrun
   have hsame : ∀ c, c ≠ b → w1.heap[c]? = w.heap[c]? := fun c hc => by rw [hw1]; exact setRow_heap_other hc
   have hsz1 : w1.heap.size = w.heap.size := by rw [hw1]; exact setRow_size
   obtain ⟨g1, g2, g3, g4⟩ := hfx b (List.mem_cons_self ..)
   have hw := hf.world (w1 := w1) (by rw [hw1]; exact Kept.setRow hf.below g1 _) (by omega) (fun c hc => hsame c fun hcb => g3 (hcb ▸ hc)) (fun u c hc => hsame c fun hcb => g4 u (hcb ▸ hc))
   have hext : Ext w F w1 F := ⟨fun _ hc => hc, fun c hc => hsame c fun hcb => g3 (hcb ▸ hc), hw.lt⟩
   have hby : b ∉ Os.flatten := hdis b (List.mem_cons_self ..)
   refine ⟨_, capx, w1, b :: (Osx ++ Os).flatten, hrun, hw, ⟨some ⟨b, o, none⟩, capx, cssx ++ css, Osx ++ Os, by rw [hlen], by rw [hlen]; exact hg, by simp [hcl, hyc], by simp [hol, hyo],
    elems _ hext (fun c hc => BSame.of_heap (hsame c fun hcb => hndx'.1 (hcb ▸ hc))) (fun c hc => BSame.of_heap (hsame c fun hcb => hby (hcb ▸ hc))), .inr (.inr ⟨by omega, b, o, rfl, fun i h1 => ?_, ?_, rfl⟩)⟩, ?_, ?_⟩
   ·by_cases hi : i < cssx.length
    ·rw [List.getElem_append_left hi]
     intro j hj
     have hl := hlx i hi
     rw [hw1, (hch b).out _ fun o' ho' => ?_]
     ·exact hat i hi j hj
     ·simp only [Option.some.injEq, Prod.mk.injEq, true_and] at ho'
      subst ho'
      left
      have : (i + 1) * e1.sz ≤ xs.length * e1.sz := Nat.mul_le_mul_right _ (by omega)
      rw [Nat.add_mul] at this
      omega
    ·rw [List.getElem_append_right (by omega)]
     have hin : At w1 b (o + xs.length * e1.sz) css.flatten := by rw [hw1]; exact (hch b).inn _ rfl
     have := flatten_at hly hin (i - cssx.length) (by simp at h1; omega)
     have he : o + xs.length * e1.sz + (i - cssx.length) * e1.sz = o + i * e1.sz := by
      rw [Nat.add_assoc, ← Nat.add_mul]; congr 2; omega
     rwa [he] at this
   ·rw [hw1]; exact (hch b).own _ ⟨cur, el, hb, hcur⟩
   ·rw [List.nodup_cons, hflat]
    refine ⟨fun hc => ?_, List.nodup_append.2 ⟨hndx'.2, hndy, fun c hc c' hc' hcc => hdis c (List.mem_cons_of_mem _ hc) (hcc ▸ hc')⟩⟩
    rcases List.mem_append.1 hc with hc | hc
    ·exact hndx'.1 hc
    ·exact hby hc
   ·intro c hc
    rw [hsz1]
    rcases List.mem_cons.1 hc with rfl | hc
    ·exact ⟨g1, g2, g3, g4⟩
    ·rw [hflat] at hc
     rcases List.mem_append.1 hc with hc | hc
     ·exact hfx c (List.mem_cons_of_mem _ hc)
     ·exact hfy c hc
  ·refine grow (by omega) ⟨by rw [flatten_len hlx, hcl], fun _ => ⟨b, o, rfl⟩, fun b' o' hb' => ?_⟩ (fun c hc => List.mem_cons_of_mem _ hc) hndx'.2
   simp only [Option.some.injEq, Addr.mk.injEq, and_true] at hb'
   obtain ⟨rfl, rfl⟩ := hb'
   exact at_flatten hlx hat
end
end Go.Tom
set_option linter.unusedVariables false
set_option linter.unusedSimpArgs false
namespace Go.Tom
open Go
section
variable {P : Program} {N : Nat} {w0 : Start} {w : World} {F0 F : Nat → Prop} {G : Nat × Bool → Bool} {e : Nat → S} {a : Act} {T : Array Value} {O : Nat → List Nat}
theorem Rep.sliceV {e1 : Ty} {n : Lv} {xs : List e1.den} {cs : List Value} {Ox : List Nat} (h : Rep P (.slice e1) n w F xs cs Ox) : ∃ ax cap, cs = [.slice ax xs.length cap] := by
 obtain ⟨ad, cap, _, _, hcs, _⟩ := h
 exact ⟨ad, cap, hcs⟩
theorem Rep.tailFlat {e1 : Ty} (hfl : e1.flat = true) {n : Lv} {m : Nat} {Fx : Nat → Prop} {ys : List e1.den} {xb : Option Addr} {len cap : Nat} {Oy : List Nat} (h : Rep P (.slice e1) n w Fx ys [.slice xb len cap] Oy) :
  ∃ css, Tail P w F e1 m ys xb css (List.replicate ys.length []) := by
 obtain ⟨ad, cap', css, Os, hcs, hcap, hcl, hol, hr, hs⟩ := h
 simp only [List.cons.injEq, Value.slice.injEq, and_true] at hcs
 obtain ⟨rfl, rfl, rfl⟩ := hcs
 refine ⟨css, hcl, by simp, fun i h h1 h2 => ?_, fun hy => ?_⟩
 ·obtain ⟨k1, k2⟩ := hr i h h1 (by omega)
  rw [List.getElem_replicate]
  exact ⟨(k1.flat hfl).2 _ _ _, k2⟩
 ·rcases hs with ⟨_, _, hx | ⟨b, o, hb, _, hat⟩⟩ | ⟨_, hc0, _⟩ | ⟨_, b, o, hb, hat, _⟩
  ·exact absurd hx hy
  ·exact ⟨b, o, hb, hat⟩
  ·exact absurd (List.eq_nil_of_length_eq_zero (by omega)) hy
  ·exact ⟨b, o, hb, hat⟩
theorem Rep.tail {e1 : Ty} {n : Lv} {m : Nat} (hm : m = n.k - 1) {ys : List e1.den} {xb : Option Addr} {len cap : Nat} {Oy : List Nat} (h : Rep P (.slice e1) n w F ys [.slice xb len cap] Oy) :
  ∃ css Os, Tail P w F e1 m ys xb css Os ∧ Os.flatten.Sublist Oy := by
 subst hm
 obtain ⟨ad, cap', css, Os, hcs, hcap, hcl, hol, hr, hs⟩ := h
 simp only [List.cons.injEq, Value.slice.injEq, and_true] at hcs
 obtain ⟨rfl, rfl, rfl⟩ := hcs
 rcases hs with ⟨_, hO, hx | ⟨b, o, hb, _, hat⟩⟩ | ⟨_, hc0, hO⟩ | ⟨_, b, o, hb, hat, _, hO⟩
 ·exact ⟨css, Os, ⟨hcl, hol, hr, fun hy => absurd hx hy⟩, by rw [hO]; exact List.Sublist.refl _⟩
 ·exact ⟨css, Os, ⟨hcl, hol, hr, fun _ => ⟨b, o, hb, hat⟩⟩, by rw [hO]; exact List.Sublist.refl _⟩
 ·have hy : ys = [] := List.eq_nil_of_length_eq_zero (by omega)
  subst hy
  have ho : Os = [] := List.eq_nil_of_length_eq_zero (by simpa using hol)
  subst ho
  exact ⟨css, [], ⟨hcl, hol, hr, fun hy => absurd rfl hy⟩, by simp⟩
 ·exact ⟨css, Os, ⟨hcl, hol, hr, fun _ => ⟨b, o, hb, hat⟩⟩, by rw [hO]; exact List.sublist_cons_self _ _⟩
theorem Free.more {R Os : List Nat} (h : Free w0 w F O Os) (hd : ∀ c ∈ Os, c ∉ R) : Free w0 w (fun c => F c ∨ c ∈ R) O Os := fun c hc => by
 obtain ⟨h1, h2, h3, h4⟩ := h c hc
 exact ⟨h1, h2, fun hF => hF.elim h3 (hd c hc), h4⟩
theorem evAppend_sound {E E' : Env} (h : Fr P N w0 F0 G E.at a.tmps w F O) {tys : Tys} (ht : tys.ok P = true) {d : Nat} (hd : InN N d) {Ti T2 ty : TypeId} (hT2 : tyAt tys T2 = tyAt tys Ti) {s : RS} {vs : Value} (hs : RSOk P G w F E.at a O s vs) {x : Operand} {l : List Prop}
  (hev : evAppend tys E d Ti s x = some (E', l)) (hl : ∀ p ∈ l, p) :
  ∃ v w1 F1 O1, (Builtin.append_ #[Ti, T2] ty #[vs, a.eval x]).run P w = .ok v w1 ∧ Fr P N w0 F0 G E'.at (a.tmps.setIfInBounds d v) w1 F1 O1 := by
 unfold evAppend at hev
 split at hev
 rotate_left
 ·simp at hev
 rename_i e1 hT
 have hok := tyAt_ok ht hT
 rw [hT] at hT2
 have hok2 := tyAt_ok ht hT2
 obtain ⟨Et, hu, hE⟩ := hok.slice
 obtain ⟨Et2, hu2, _⟩ := hok2.slice
 split at hev
 rotate_left
 ·simp at hev
 rename_i lx e2 xs E1 htk
 split at hev
 rotate_left
 ·simp at hev
 rename_i n hlx
 split at hev
 rotate_left
 ·simp at hev
 rename_i h1
 subst h1
 split at hev
 rotate_left
 ·simp at hev
 rename_i hdata
 obtain ⟨O1, Ot, cs, hf, hv, hrp, hnd, ho, _, hsub⟩ := take_sound h hs htk
 obtain rfl : cs = [vs] := hv
 replace hrp := Rep.slice_k (m := .n (n + 1)) hrp hlx
 obtain ⟨ax, capx, hvs⟩ := hrp.sliceV
 simp only [List.cons.injEq, and_true] at hvs
 subst hvs
 split at hev
 ·rename_i hfl
  split at hev
  rotate_left
  ·simp at hev
  rename_i e3 ys hrd
  split at hev
  rotate_left
  ·simp at hev
  rename_i h2
  subst h2
  simp only [Option.some.injEq, Prod.mk.injEq] at hev
  obtain ⟨rfl, rfl⟩ := hev
  have hlim := hl _ (List.mem_singleton.2 rfl)
  have hlim' := hlim
  obtain ⟨csy, hvy, hry⟩ := rdv_sound h (opd_ok h (ok := []) (fun g hg => by cases hg) x) hrd
  have hcy : csy = [a.eval x] := hvy
  rw [hcy] at hry
  obtain ⟨xb, xc, hxb⟩ := hry.sliceV
  simp only [List.cons.injEq, and_true] at hxb
  rw [hxb] at hry ⊢
  obtain ⟨css, htail⟩ := hry.tailFlat (F := F) (m := n) hfl
  have hnil : (List.replicate ys.length ([] : List Nat)).flatten = [] := flatten_nil fun y hy => (List.mem_replicate.1 hy).2
  obtain ⟨ar, capr, w1, On, hrun, hf1, hr1, hn1, hfr1⟩ := append_core (ty := ty) (xc := xc) hf hu hE hdata hu2 hrp hnd ho htail (by rw [hnil]; exact List.nodup_nil) (by rw [hnil]; exact fun c hc => by cases hc) (fun c _ => by rw [hnil]; simp) hlim'
  have hTk : Taken P N w0 F0 G a.tmps w1 F (fun u => O1 u ++ On) E1 (.n (n + 1)) ⟨.slice e3, xs ++ ys⟩ (.slice ar (xs.length + ys.length) capr) :=
   ⟨O1, On, _, hf1, rfl, hr1, hn1, hfr1, fun b hb => ⟨0, List.mem_append_right _ hb⟩, fun u b hb => List.mem_append_left _ hb⟩
  obtain ⟨O', hO'⟩ := hTk.lay hd
  exact ⟨_, w1, F, O', hrun, hO'⟩
 ·rename_i hfl
  split at hev
  rotate_left
  ·simp at hev
  rename_i k e3 ys E2 htk2
  split at hev
  rotate_left
  ·simp at hev
  rename_i h2
  subst h2
  simp only [Option.some.injEq, Prod.mk.injEq] at hev
  obtain ⟨rfl, rfl⟩ := hev
  have hlim := hl _ (List.mem_singleton.2 rfl)
  have hlim' := hlim
  obtain ⟨O2, Oy, csy, hf2, hvy, hry, hndy, hoy, hsuby, hsub2⟩ := take_sound hf (opd_ok hf (ok := []) (fun g hg => by cases hg) x) htk2
  have hcy : csy = [a.eval x] := hvy
  rw [hcy] at hry
  obtain ⟨xb, xc, hxb⟩ := hry.sliceV
  simp only [List.cons.injEq, and_true] at hxb
  rw [hxb] at hry ⊢
  obtain ⟨m, hm⟩ : ∃ m, m = min n (k.k - 1) := ⟨_, rfl⟩
  rw [← hm]
  obtain ⟨Ox', R1, p1, k1⟩ := hrp.lower (m := .n (m + 1)) (Nat.ble_eq_true_of_le (by omega))
  have hyl : ∃ Oy' R2, Oy.Perm (Oy' ++ R2) ∧ ∀ F', Ext w F w F' → (∀ b ∈ R2, F' b) → ∃ css Os, Tail P w F' e3 m ys xb css Os ∧ Os.flatten.Sublist Oy' := by
   by_cases hk : k.k = 0
   ·refine ⟨[], Oy, by simp, fun F' he hR => ?_⟩
    replace hry := Rep.slice_k (m := .n 0) hry hk
    have hz := hry.zero_nil
    rw [hz] at hry
    obtain ⟨css, Os, h1, h2⟩ := hry.tail (m := m) (by simp only [Lv.k]; omega)
    exact ⟨css, Os, h1.mono he, h2⟩
   ·obtain ⟨Oy', R2, p2, k2⟩ := (Rep.slice_k (m := .n k.k) hry rfl).lower (m := .n (m + 1)) (Nat.ble_eq_true_of_le (by omega))
    exact ⟨Oy', R2, p2, fun F' he hR => (k2 F' he hR).tail (m := m) (by simp [Lv.k])⟩
  obtain ⟨Oy', R2, p2, k2⟩ := hyl
  have hxm : ∀ c ∈ Ox' ++ R1, c ∈ Ot := fun c hc => p1.mem_iff.2 hc
  have hym : ∀ c ∈ Oy' ++ R2, c ∈ Oy := fun c hc => p2.mem_iff.2 hc
  have hxd := p1.nodup_iff.1 hnd
  have hyd := p2.nodup_iff.1 hndy
  have hcross : ∀ c ∈ Ot, c ∉ Oy := fun c hc hc' => by
   obtain ⟨u, hu⟩ := hsuby c hc'
   exact (ho c hc).2.2.2 u hu
  have hfx : Free w0 w F O2 Ot := fun c hc => by
   obtain ⟨g1, g2, g3, g4⟩ := ho c hc
   exact ⟨g1, g2, g3, fun u hu => g4 u (hsub2 u c hu)⟩
  have hfy : Free w0 w F O2 Oy := hoy
  have hRm : ∀ c ∈ R1 ++ R2, c ∈ Ot ∨ c ∈ Oy := fun c hc => by
   rcases List.mem_append.1 hc with hc | hc
   ·exact .inl (hxm c (List.mem_append_right _ hc))
   ·exact .inr (hym c (List.mem_append_right _ hc))
  have hmore := hf2.more (R := R1 ++ R2) fun c hc => by
   rcases hRm c hc with hc | hc
   ·obtain ⟨g1, g2, g3, g4⟩ := hfx c hc; exact ⟨g1, g2, g4⟩
   ·obtain ⟨g1, g2, g3, g4⟩ := hfy c hc; exact ⟨g1, g2, g4⟩
  have hext : Ext w F w (fun c => F c ∨ c ∈ R1 ++ R2) := ⟨fun _ hc => .inl hc, fun _ _ => rfl, hmore.lt⟩
  obtain ⟨css, Os, htail, hsl⟩ := k2 _ hext fun b hb => .inr (List.mem_append_right _ hb)
  have hxr := k1 _ hext fun b hb => .inr (List.mem_append_left _ hb)
  have hosm : ∀ c ∈ Os.flatten, c ∈ Oy' := fun c hc => hsl.subset hc
  obtain ⟨ar, capr, w1, On, hrun, hf1, hr1, hn1, hfr1⟩ := append_core (ty := ty) (xc := xc) hmore hu hE hdata hu2 hxr (List.nodup_append.1 hxd).1
   (Free.more (fun c hc => hfx c (hxm c (List.mem_append_left _ hc))) fun c hc hc' => by
    rcases List.mem_append.1 hc' with hc' | hc'
    ·exact (List.nodup_append.1 hxd).2.2 c hc c hc' rfl
    ·exact hcross c (hxm c (List.mem_append_left _ hc)) (hym c (List.mem_append_right _ hc')))
   htail ((List.nodup_append.1 hyd).1.sublist hsl)
   (Free.more (fun c hc => hfy c (hym c (List.mem_append_left _ (hosm c hc)))) fun c hc hc' => by
    rcases List.mem_append.1 hc' with hc' | hc'
    ·exact hcross c (hxm c (List.mem_append_right _ hc')) (hym c (List.mem_append_left _ (hosm c hc)))
    ·exact (List.nodup_append.1 hyd).2.2 c (hosm c hc) c hc' rfl)
   (fun c hc hc' => hcross c (hxm c (List.mem_append_left _ hc)) (hym c (List.mem_append_left _ (hosm c hc')))) hlim'
  have hTk : Taken P N w0 F0 G a.tmps w1 (fun c => F c ∨ c ∈ R1 ++ R2) (fun u => O2 u ++ On) E2 (.n (m + 1)) ⟨.slice e3, xs ++ ys⟩ (.slice ar (xs.length + ys.length) capr) :=
   ⟨O2, On, _, hf1, rfl, hr1, hn1, hfr1, fun b hb => ⟨0, List.mem_append_right _ hb⟩, fun u b hb => List.mem_append_left _ hb⟩
  obtain ⟨O', hO'⟩ := hTk.lay hd
  exact ⟨_, w1, _, O', hrun, hO'⟩
end
end Go.Tom
set_option linter.unusedVariables false
set_option linter.unusedSimpArgs false
namespace Go.Tom
open Go
section
variable {P : Program} {N : Nat} {w0 : Start} {w : World} {F0 F : Nat → Prop} {G : Nat × Bool → Bool} {e : Nat → S} {a : Act} {T : Array Value} {O : Nat → List Nat}
theorem clr_len {xs : List Int} {l h : Int} (h0 : 0 ≤ l) (h1 : l ≤ h) (h2 : h ≤ (xs.length : Int)) : (clr xs l h).length = xs.length := by
 simp only [clr, List.length_append, List.length_take, List.length_replicate, List.length_drop]
 omega
theorem clr_none {xs : List Int} {l : Int} : clr xs l l = xs := by simp [clr]
theorem clr_get {xs : List Int} {l h : Int} (h0 : 0 ≤ l) (h1 : l ≤ h) (h2 : h ≤ (xs.length : Int)) {i : Nat} (hi : i < xs.length) (hi' : i < (clr xs l h).length) :
  (clr xs l h)[i] = if l.toNat ≤ i ∧ i < h.toNat then 0 else xs[i] := by
 have hl : (xs.take l.toNat).length = l.toNat := by simp; omega
 simp only [clr]
 by_cases hil : i < l.toNat
 ·rw [List.getElem_append_left (by rw [hl]; exact hil), if_neg (by omega)]
  simp
 ·rw [List.getElem_append_right (by rw [hl]; omega)]
  by_cases hih : i < h.toNat
  ·rw [List.getElem_append_left (by simp only [hl, List.length_replicate]; omega), if_pos ⟨by omega, hih⟩]
   simp
  ·rw [List.getElem_append_right (by simp only [hl, List.length_replicate]; omega), if_neg (by omega)]
   simp only [hl, List.length_replicate, List.getElem_drop]
   congr 1
   omega
theorem zeroCells_one (z : Value) : ∀ n : Nat, (Builtin.zeroCells #[z] n).toList = List.replicate n z := by
 intro n
 apply List.ext_getElem
 ·simp [Builtin.zeroCells]
 ·intro i h1 h2
  simp [Builtin.zeroCells, Nat.mod_one]
theorem run_clear_none {Ti E : TypeId} (hok : P.underlying Ti = some (.slice E)) {ty : TypeId} {ad : Option Addr} {cap : Nat} : (Builtin.clear_ #[Ti] ty #[.slice ad 0 cap]).run P w = .ok (.tuple #[]) w := by
 cases ad <;> simp [Builtin.clear_, run_underlying hok]
theorem run_clear {Ti E : TypeId} {k : IntKind} (hok : P.underlying Ti = some (.slice E)) (hE : TyOk P E (.int k)) {ty : TypeId} {b o m cap : Nat} {cur : Array Value} {el : TypeId} (hb : w.heap[b]? = some (.cells cur el (0, 0))) (hle : o + (m + 1) ≤ cur.size) :
  (Builtin.clear_ #[Ti] ty #[.slice (some ⟨b, o, none⟩) (m + 1) cap]).run P w = .ok (.tuple #[]) (w.setRow b (cur.toList.take o ++ List.replicate (m + 1) (Value.int k 0) ++ cur.toList.drop (o + (m + 1))).toArray) := by
 obtain ⟨z, hz, hzc⟩ := hE.zeroV (P := P) (w := w) rfl
 have hz2 : [Value.int k 0] = [z] := hzc
 simp only [List.cons.injEq, and_true] at hz2
 subst hz2
 have hst := run_storeCells_at P b o el (List.replicate (m + 1) (.int k 0)) 0 cur w hb (by simpa using hle) (fun v hv => by rw [(List.mem_replicate.1 hv).2]; rfl)
 simp only [Nat.add_zero, List.length_replicate] at hst
 have hcl : (Value.int k 0).cells = #[.int k 0] := rfl
 simp [Builtin.clear_, run_underlying hok, hz, hcl, zeroCells_one, hst]
theorem evClear_sound {E E' : Env} (h : Fr P N w0 F0 G E.at a.tmps w F O) {tys : Tys} (ht : tys.ok P = true) {Ti ty : TypeId} {r : RS} {v : Value} (hr : RSOk P G w F E.at a O r v) {lp : List Prop}
  (hev : evClear tys E Ti r = some (E', lp)) :
  ∃ w1 F1 O1, (Builtin.clear_ #[Ti] ty #[v]).run P w = .ok (.tuple #[]) w1 ∧ Fr P N w0 F0 G E'.at a.tmps w1 F1 O1 := by
 unfold evClear at hev
 split at hev
 rotate_left
 ·simp at hev
 rename_i tt V lo hi rts
 split at hev
 rotate_left
 ·simp at hev
 rename_i k n k' xs hT hV
 split at hev
 rotate_left
 ·simp at hev
 rename_i hk
 subst hk
 simp only [Option.some.injEq, Prod.mk.injEq] at hev
 obtain ⟨rfl, rfl⟩ := hev
 obtain ⟨E1, hok, hE⟩ := (tyAt_ok ht hT).slice
 obtain ⟨⟨Or, hrep, _⟩, hrt, _⟩ := hr
 obtain ⟨_, ad, len, cap, e', cs', l', hveq, ⟨τ, cs, l, hroot, hpl⟩, hcs', hl0, hl1, hl2⟩ := hrep
 obtain ⟨hτ, rfl, _⟩ := hpl
 rw [hV] at hroot
 obtain ⟨hσ, hvs, rfl⟩ := hroot
 subst hσ
 simp only [Ty.slice.injEq] at hτ
 subst hτ
 have hrV := h.rep V
 rw [hV] at hrV
 obtain ⟨cs2, hvs2, hrep2⟩ := hrV
 obtain rfl := hvs.inj hvs2
 obtain ⟨ad2, cap2, css, Os, hcs2, hcap, hcl, hol, hre, hs⟩ := id hrep2
 rw [hcs2] at hcs'
 simp only [List.cons.injEq, Value.slice.injEq, and_true] at hcs'
 obtain ⟨rfl, rfl, rfl⟩ := hcs'
 by_cases hlh : lo = hi
 ·subst hlh
  have hz : (lo - lo).toNat = 0 := by simp
  rw [hz] at hveq
  have hft := h.turn (V := V) (s := .v (.n (n + 1)) (.slice (.int k)) xs) (On := O V) ⟨_, hvs2, hrep2⟩ rfl ⟨h.nodup V, fun b hb => hb⟩
  rw [← Env.kill_set] at hft
  refine ⟨w, F, (fun t => if t = V then O V else O t), by rw [hveq]; exact run_clear_none hok, ?_⟩
  rw [clr_none]
  exact hft
 ·rcases hs with ⟨h0, _⟩ | ⟨_, hc0, hOV⟩ | ⟨_, b, o, had, hat, hown, hOV⟩
  ·exact absurd h0 (Nat.succ_ne_zero _)
  ·omega
  ·subst had
   obtain ⟨cur, el, hb, hsz⟩ := hown
   simp only [Ty.sz, Nat.mul_one] at hsz hat
   have hne : ¬ cap2 = lo.toNat := by omega
   obtain ⟨m, hm⟩ : ∃ m, (hi - lo).toNat = m + 1 := ⟨(hi - lo).toNat - 1, by omega⟩
   have hadd : (⟨b, o, none⟩ : Addr).add (lo.toNat * (Ty.int k).sz) = ⟨b, o + lo.toNat, none⟩ := by
    simp only [Ty.sz, Nat.mul_one]
    exact add_at ..
   rw [if_neg hne, hm] at hveq
   simp only [Option.map_some, hadd] at hveq
   have hle : o + lo.toNat + (m + 1) ≤ cur.size := by omega
   have hrun := run_clear (k := k) hok hE (ty := ty) (cap := cap2 - lo.toNat) hb hle
   have hchg := chg_setRow hb (cs := List.replicate (m + 1) (Value.int k 0)) (o := o + lo.toNat) (by simpa using hle) b
   simp only [List.length_replicate] at hchg
   refine ⟨_, F, (fun t => if t = V then [b] else (if t = V then [] else O t)), by rw [hveq]; exact hrun, ?_⟩
   have hbO : b ∈ O V := by rw [hOV]; exact List.mem_cons_self ..
   obtain ⟨hb1, hb2, hb3⟩ := h.own V b hbO
   have hf := h.turn (V := V) (s := .dead) (On := []) rfl rfl ⟨List.nodup_nil, fun b hb => by cases hb⟩
   rw [← Env.kill_set] at hf
   have hw := hf.world (w1 := w.setRow b (cur.toList.take (o + lo.toNat) ++ List.replicate (m + 1) (Value.int k 0) ++ cur.toList.drop (o + lo.toNat + (m + 1))).toArray) (hf.below.setRow hb1 _) (by rw [setRow_size]; omega)
    (fun c hc => setRow_heap_other fun hcb => hb3 (hcb ▸ hc)) (fun u c hc => setRow_heap_other fun hcb => by
     by_cases hu : u = V
     ·simp [hu] at hc
     ·simp only [hu, if_false] at hc
      exact h.apart u V hu c hc (hcb ▸ hbO))
   have hclen := clr_len hl0 hl1 hl2
   refine hw.relay (On := [b]) ⟨_, hvs2, some ⟨b, o, none⟩, cap2, (clr xs lo hi).map fun y => [.int k y], List.replicate xs.length [], by rw [hcs2, hclen], by rw [hclen]; exact hcap, by simp, by simp [hclen], fun i h1 h2 h3 => ⟨?_, by simp [Ty.sz]⟩, .inr (.inr ⟨Nat.succ_pos _, b, o, rfl, fun i h1 => ?_, hchg.own _ ⟨cur, el, hb, by simpa [Ty.sz] using hsz⟩, ?_⟩)⟩ rfl (slot_lt hf.size (Rep.not_undef hvs2 hrep2)) (by simp) fun c hc => ?_
   ·simp only [List.getElem_map, List.getElem_replicate]
    exact ⟨rfl, rfl⟩
   ·have hix : i < xs.length := by simpa [hclen] using h1
    simp only [List.getElem_map, Ty.sz, Nat.mul_one]
    intro j hj
    have hj0 : j = 0 := by simpa using hj
    subst hj0
    simp only [Nat.add_zero, List.getElem_cons_zero]
    rw [clr_get hl0 hl1 hl2 hix (by omega)]
    split
    ·rename_i hin
     have := hchg.inn (o + lo.toNat) rfl (i - lo.toNat) (by simp; omega)
     rw [show o + lo.toNat + (i - lo.toNat) = o + i from by omega] at this
     simpa using this
    ·rename_i hin
     rw [hchg.out (o + i) fun o' ho' => by
      simp only [Option.some.injEq, Prod.mk.injEq, true_and] at ho'
      simp only [List.length_replicate]
      omega]
     have hi0 := hat i (by omega)
     have hri := (hre i hix (by omega) (by omega)).1
     have hce : css[i] = [.int k xs[i]] := hri.1
     rw [hce] at hi0
     have := hi0 0 (by simp)
     simpa using this
   ·simp
   ·rw [List.mem_singleton] at hc
    subst hc
    refine ⟨hb1, by rw [setRow_size]; exact hb2, hb3, fun u hu hc => ?_⟩
    simp only [hu, if_false] at hc
    exact h.apart u V hu c hc hbO
end
end Go.Tom
set_option linter.unusedVariables false
set_option linter.unusedSimpArgs false
namespace Go.Tom
open Go
section
variable {P : Program} {N : Nat} {w0 : Start} {w : World} {F0 F : Nat → Prop} {G : Nat × Bool → Bool} {e : Nat → S} {a : Act} {T : Array Value} {O : Nat → List Nat}
theorem resS_roots {rs : List (Lv × Res)} : roots (resS rs) = [] := by
 match rs with
 | [] => rfl
 | [(m, r)] => rfl
 | _ :: _ :: _ => rfl
theorem evOwn_sound {E E' : Env} (h : Fr P N w0 F0 G E.at a.tmps w F O) {tys : Tys} (ht : tys.ok P = true) {A : Array Oper} {o : Oper} {sup sup' : List Sup} {l : List Prop} (hev : evOwn P tys N E o sup = some (E', l, sup')) (hl : ∀ p ∈ l, p) {K : Act → World → Prop} {Q : Exit → Act → World → Prop}
  (hK : ∀ v w1 F1 O1, Fr P N w0 F0 G E'.at (a.put o.dst v).tmps w1 F1 O1 → K (a.put o.dst v) w1) :
  if Region.wanted o (yielded A a.tmps) then o.wp P a w K Q ∨ (o.asks P a w ∧ LetsOut Q) else K (a.put o.dst undef) w := by
 have op0 := fun x => opd_ok h (ok := []) (fun g hg => by cases hg) x
 unfold evOwn at hev
 split at hev
 rotate_left
 ·simp at hev
 rename_i f args Ts d hg hop hdst
 have hw : Region.wanted o (yielded A a.tmps) = true := by simp [Region.wanted, hg]
 rw [if_pos hw]
 left
 split at hev
 rotate_left
 ·simp at hev
 rename_i hd
 split at hev
 rotate_left
 ·simp at hev
 rename_i x xs Tx Ts' hargs hTs
 split at hev
 rotate_left
 ·simp at hev
 rename_i n t E1 htk
 split at hev
 rotate_left
 ·simp at hev
 rename_i ts o1 rs sup1 hav
 split at hev
 rotate_left
 ·simp at hev
 rename_i hfr
 simp only [Option.some.injEq, Prod.mk.injEq] at hev
 obtain ⟨rfl, rfl, rfl⟩ := hev
 obtain ⟨O', Ot, cs, hf, hv, hrp, hnd, hot, _⟩ := take_sound h (op0 x) htk
 obtain ⟨hfun, hcall⟩ : OCall P f n t ts (rs.map (·.2)) := hl _ (List.mem_append_right _ (List.mem_singleton.2 rfl))
 have hA := argsTV_sound hf (opds_ok hf (ok := []) (fun g hg => by cases hg) xs) hav fun p hp => hl p (List.mem_append_left _ hp)
 have hav' : args.map a.eval = (a.eval x :: xs.map a.eval).toArray := by
  apply Array.toList_inj.1
  simp [hargs]
 have ho : (execOp a.eval o).run P w = (callFunc f (a.eval x :: xs.map a.eval).toArray).run P w := by
  rw [← hav']
  simp only [execOp, hop, resolve, Act.eval, Deferred.ofValue, Sem.run_bind, Sem.run_pure, Result.andThen_ok, invoke]
  congr 2
  apply Array.toList_inj.1
  simp
 unfold Oper.wp
 rw [ho, run_callFunc hfun, Oper.upon_enter]
 refine (hcall w (FC F O') (a.eval x) cs Ot (xs.map a.eval) hf.fc.lt (hf.lays.ext hf.fc) hv (hrp.mono hf.fc fun b _ => .of_heap rfl) hnd (fun b hb => ⟨(hot b hb).2.1, fun hc => ?_⟩) hA).mono fun ed w' ⟨vr, F1, Or, he, hres, hout⟩ => ?_
 ·rcases hc with hc | ⟨u, hc⟩
  ·exact (hot b hb).2.2.1 hc
  ·exact (hot b hb).2.2.2 u hc
 subst he
 obtain ⟨Or', R, hp, hk⟩ := res_fresh hres hfr
 have hnd2 := hp.nodup_iff.1 hout.nodup
 have hsz : w.heap.size ≤ w'.heap.size := hout.below.size
 have hstay : ∀ b, FC F O' b → w'.heap[b]? = w.heap[b]? := fun b hb => hout.below.block b ⟨hf.fc.lt b hb, fun hc => by
  rcases hb with hb | ⟨u, hb⟩
  ·exact (hot b hc).2.2.1 hb
  ·exact (hot b hc).2.2.2 u hb⟩
 have hkept : Kept w0 w' := ⟨hout.below.os.trans hf.below.os, hout.below.tape.trans hf.below.tape, hout.below.output.trans hf.below.output, Nat.le_trans hf.below.size hsz, fun b hb => (hout.below.block b ⟨Nat.lt_of_lt_of_le (w0.lt b hb) hf.below.size, fun hc => (hot b hc).1 hb⟩).trans (hf.below.block b hb)⟩
 have hw1 := hf.world hkept hsz (fun b hb => hstay b (.inl hb)) fun u b hb => hstay b (.inr ⟨u, hb⟩)
 have hnew : ∀ b ∈ Or, ¬ w0.pr b ∧ b < w'.heap.size ∧ ¬ F b ∧ ∀ u, b ∉ O' u := fun b hb => by
  obtain ⟨n1, n2, n3⟩ := hout.new b hb
  refine ⟨fun hc => n1 ⟨Nat.lt_of_lt_of_le (w0.lt b hc) hf.below.size, fun hc2 => (hot b hc2).1 hc⟩, n2, fun hc => n3 (hout.sub b (.inl hc)), fun u hc => n3 (hout.sub b (.inr ⟨u, hc⟩))⟩
 have hOr : ∀ b ∈ Or', b ∈ Or := fun b hb => hp.mem_iff.2 (List.mem_append_left _ hb)
 have hR : ∀ b ∈ R, b ∈ Or := fun b hb => hp.mem_iff.2 (List.mem_append_right _ hb)
 have hw2 := (hw1.more (R := R) fun b hb => by
  obtain ⟨n1, n2, n3, n4⟩ := hnew b (hR b hb)
  exact ⟨n1, n2, n4⟩).kill d
 have hE : ((E1.kill d).set d (resS rs)).at = fun u => if u = d then resS rs else (if rooted d (E1.at u) then .dead else E1.at u) := by
  funext u; rw [Env.at_set]; split
  ·rfl
  ·exact Env.at_kill E1 d u
 have hdN := inN_spec hd
 refine hK _ w' (fun b => F b ∨ b ∈ R) (fun t => if t = d then Or' else O' t) ?_
 rw [hE, hdst]
 refine hw2.lay (v := tupled vr) ⟨hdN.2, .inl hdN.1⟩ (fun u => kill_free E1.at) (resS_rep (hk _ hw2.lt fun b hb => .inr hb)) (by rw [resS_roots]; simp) (List.nodup_append.1 hnd2).1 fun b hb => ?_
 obtain ⟨n1, n2, n3, n4⟩ := hnew b (hOr b hb)
 refine ⟨n1, n2, fun hc => ?_, fun u _ => n4 u⟩
 rcases hc with hc | hc
 ·exact n3 hc
 ·exact (List.nodup_append.1 hnd2).2.2 b hb b hc rfl
theorem slotOf_sound {E : Env} (h : Fr P N w0 F0 G E.at a.tmps w F O) {r : RS} {v : Value} (hr : RSOk P G w F E.at a O r v) {V : Nat} {s : S} (hs : slotOf r = some (V, s)) : E.at V = s ∧ v = a.tmps.getD V undef ∧ HRep P w F v s (O V) := by
 obtain ⟨⟨Or, hrep, hOr⟩, hrt, hslot⟩ := hr
 unfold slotOf at hs
 split at hs
 ·rename_i W n τ x rr
  simp only [Option.some.injEq, Prod.mk.injEq] at hs
  obtain ⟨hW, rfl⟩ := hs
  subst hW
  obtain ⟨h1, h2⟩ := hslot _ rfl
  have hV := h.rep W
  rw [h1, ← h2] at hV
  exact ⟨h1, h2, hV⟩
 ·rename_i W n τ x rr
  simp only [Option.some.injEq, Prod.mk.injEq] at hs
  obtain ⟨hW, rfl⟩ := hs
  subst hW
  obtain ⟨h1, h2⟩ := hslot _ rfl
  have hV := h.rep W
  rw [h1, ← h2] at hV
  exact ⟨h1, h2, hV⟩
 ·rename_i to W n τ x
  simp only [Option.some.injEq, Prod.mk.injEq] at hs
  obtain ⟨hW, rfl⟩ := hs
  subst hW
  simp only [roots, List.map_cons, List.map_nil, List.cons.injEq, and_true] at hrt
  have hV := h.rep W
  obtain ⟨_, ⟨hp, _, _⟩ | ⟨τ', cs', l, hv, τ1, cs, l0, hroot, hpl⟩⟩ := hrep
  ·rw [← hrt] at hp; simp [passive] at hp
  ·rw [← hrt] at hroot hV
   obtain ⟨rfl, hvs, rfl⟩ := hroot
   obtain ⟨rfl, rfl, rfl⟩ := hpl
   have he := hv.inj' hvs
   exact ⟨hrt.symm, he, by rw [he]; exact hV⟩
 ·simp at hs
theorem HRep.full {s : S} {v : Value} {F' : Nat → Prop} {Os : List Nat} (h : HRep P w F v s Os) (hf : fullS s = true) : HRep P w F' v s Os := by
 cases s <;> simp only [fullS, Bool.false_eq_true] at hf
 ·obtain ⟨cs, h1, h2⟩ := h
  exact ⟨cs, h1, Rep.full hf h2⟩
 ·obtain ⟨b, cs, el, O', h1, h2, h3, h4⟩ := h
  exact ⟨b, cs, el, O', h1, h2, Rep.full hf h3, h4⟩
theorem HRep.srep {s : S} {v : Value} {Os : List Nat} (h : HRep P w F v s Os) : SRep P G w F T e v s Os ∧ roots s = [] := by
 cases s <;> first
  | exact ⟨h, rfl⟩
  | exact h.elim
theorem HRep.roots {s : S} {v : Value} {Os : List Nat} (h : HRep P w F v s Os) : roots s = [] := by
 cases s <;> first
  | rfl
  | exact h.elim
theorem HRep.mono {s : S} {v : Value} {w' : World} {F' : Nat → Prop} {Os : List Nat} (h : HRep P w F v s Os) (he : Ext w F w' F') (hh : ∀ b ∈ Os, w'.heap[b]? = w.heap[b]?) : HRep P w' F' v s Os := by
 cases s <;> try exact h.elim
 ·obtain ⟨cs, h1, h2⟩ := h
  exact ⟨cs, h1, h2.mono he fun b hb => .of_heap (hh b hb)⟩
 ·obtain ⟨b, cs, el, O', h1, h2, h3, rfl⟩ := h
  exact ⟨b, cs, el, O', h1, by rw [hh b (List.mem_cons_self ..)]; exact h2, h3.mono he fun c hc => .of_heap (hh c (List.mem_cons_of_mem _ hc)), rfl⟩
theorem HRep.not_undef {s : S} {v : Value} {Os : List Nat} (h : HRep P w F v s Os) : v ≠ undef := by
 cases s <;> try exact h.elim
 ·obtain ⟨cs, h1, h2⟩ := h
  exact Rep.not_undef h1 h2
 ·obtain ⟨b, cs, el, O', h1, h2, h3, rfl⟩ := h
  rw [h1]; simp [undef]
theorem Fr.grow (h : Fr P N w0 F0 G e T w F O) {F1 : Nat → Prop} (h1 : ∀ b, F b → F1 b) (h2 : ∀ b, F1 b → b < w.heap.size) (h3 : ∀ b, F1 b → w0.pr b → F0 b) (h4 : ∀ t, ∀ b ∈ O t, ¬ F1 b) : Fr P N w0 F0 G e T w F1 O := by
 have he : Ext w F w F1 := ⟨h1, fun _ _ => rfl, h2⟩
 exact ⟨h.size, h.fixed, h.below, fun b hb => h1 b (h.sub b hb), h2, h3, fun t => (h.rep t).keep he (fun _ _ _ => rfl) h.rep (fun _ _ => rfl), h.nodup, fun t b hb => ⟨(h.own t b hb).1, (h.own t b hb).2.1, h4 t b hb⟩, h.apart, h.lays.ext he⟩
theorem inn_behind {E E' : Env} {V : Nat} {s s' : S} {o : Oper} {rs : List (Lv × Res)} {obs l : List Prop} {sup sup' : List Sup}
  (hev : (match o.dst with
   | none => some ((E.kill V).set V s', obs, sup)
   | some d => if inN N d && !(Nat.beq d V) then some ((((E.kill V).set V s').kill d).set d (resS rs), obs, sup) else none) = some (E', l, sup'))
  {w' : World} {Fn : Nat → Prop} {Oi Or' : List Nat} {vr : List Value} (hlt : V < slotN N)
  (hw2 : Fr P N w0 F0 G ((E.kill V).set V .dead).at a.tmps w' Fn (fun t => if t = V then [] else O t))
  (hinn : HRep P w' Fn (a.tmps.getD V undef) s' Oi) (hres : ResRep P w' Fn (rs.map lowR) vr Or') (hnd : (Oi ++ Or').Nodup)
  (hnew : ∀ b ∈ Oi ++ Or', ¬ w0.pr b ∧ b < w'.heap.size ∧ ¬ Fn b ∧ ∀ u, b ∉ (if u = V then [] else O u)) :
  ∃ O1, Fr P N w0 F0 G E'.at (a.put o.dst (tupled vr)).tmps w' Fn O1 := by
 have hnd' := List.nodup_append.1 hnd
 have hw3 := hw2.relay (s := s') (On := Oi) hinn.srep.1 hinn.roots hlt hnd'.1 fun b hb => by
  obtain ⟨n1, n2, n3, n4⟩ := hnew b (List.mem_append_left _ hb)
  exact ⟨n1, n2, n3, fun u _ => n4 u⟩
 split at hev
 ·rename_i hdst
  simp only [Option.some.injEq, Prod.mk.injEq] at hev
  obtain ⟨rfl, rfl, rfl⟩ := hev
  rw [hdst]
  exact ⟨_, hw3⟩
 ·rename_i d hdst
  split at hev
  rotate_left
  ·simp at hev
  rename_i hd
  simp only [Bool.and_eq_true, Bool.not_eq_true'] at hd
  obtain ⟨hd, hdV⟩ := hd
  simp only [Option.some.injEq, Prod.mk.injEq] at hev
  obtain ⟨rfl, rfl, rfl⟩ := hev
  have hw4 := hw3.kill d
  have hE : ((((E.kill V).set V s').kill d).set d (resS rs)).at = fun u => if u = d then resS rs else (if rooted d (((E.kill V).set V s').at u) then .dead else ((E.kill V).set V s').at u) := by
   funext u; rw [Env.at_set]; split
   ·rfl
   ·exact Env.at_kill _ d u
  have hdN := inN_spec hd
  rw [hE, hdst]
  exact ⟨_, hw4.lay (v := tupled vr) ⟨hdN.2, .inl hdN.1⟩ (fun u => kill_free ((E.kill V).set V s').at) (resS_rep hres) (by rw [resS_roots]; simp) hnd'.2.1 fun b hb => by
   obtain ⟨n1, n2, n3, n4⟩ := hnew b (List.mem_append_right _ hb)
   refine ⟨n1, n2, n3, fun u _ => ?_⟩
   by_cases hu : u = V
   ·simp only [hu, if_true]
    exact fun hc => hnd'.2.2 b hc b hb rfl
   ·have := n4 u
    simp only [hu, if_false] at this ⊢
    exact this⟩
theorem evInn_sound {E E' : Env} (h : Fr P N w0 F0 G E.at a.tmps w F O) {tys : Tys} (ht : tys.ok P = true) {A : Array Oper} {o : Oper} {s' : S} {sup sup' : List Sup} {l : List Prop} (hev : evInn P tys N E o s' sup = some (E', l, sup')) (hl : ∀ p ∈ l, p) {K : Act → World → Prop} {Q : Exit → Act → World → Prop}
  (hK : ∀ v w1 F1 O1, Fr P N w0 F0 G E'.at (a.put o.dst v).tmps w1 F1 O1 → K (a.put o.dst v) w1) :
  if Region.wanted o (yielded A a.tmps) then o.wp P a w K Q ∨ (o.asks P a w ∧ LetsOut Q) else K (a.put o.dst undef) w := by
 have op0 := fun x => opd_ok h (ok := []) (fun g hg => by cases hg) x
 unfold evInn at hev
 split at hev
 rotate_left
 ·simp at hev
 rename_i f args Ts hg hop
 have hw : Region.wanted o (yielded A a.tmps) = true := by simp [Region.wanted, hg]
 rw [if_pos hw]
 left
 split at hev
 rotate_left
 ·simp at hev
 rename_i x xs Tx Ts' hargs hTs
 split at hev
 rotate_left
 ·simp at hev
 rename_i V s hsl
 split at hev
 rotate_left
 ·simp at hev
 rename_i ts o1 rs sup1 hav
 split at hev
 rotate_left
 ·simp at hev
 rename_i hfr
 obtain ⟨hEV, hvV, hhr⟩ := slotOf_sound h (op0 x) hsl
 have hfun' : ICall P f s s' ts (rs.map (·.2)) ∧ ∀ p ∈ o1, p := by
  split at hev
  ·simp only [Option.some.injEq, Prod.mk.injEq] at hev
   obtain ⟨rfl, rfl, rfl⟩ := hev
   exact ⟨hl _ (List.mem_append_right _ (List.mem_singleton.2 rfl)), fun p hp => hl p (List.mem_append_left _ hp)⟩
  ·split at hev
   ·simp only [Option.some.injEq, Prod.mk.injEq] at hev
    obtain ⟨rfl, rfl, rfl⟩ := hev
    exact ⟨hl _ (List.mem_append_right _ (List.mem_singleton.2 rfl)), fun p hp => hl p (List.mem_append_left _ hp)⟩
   ·simp at hev
 obtain ⟨⟨hfun, hcall⟩, hlo⟩ := hfun'
 have hf := h.turn (V := V) (s := .dead) (On := []) rfl rfl ⟨List.nodup_nil, fun b hb => by cases hb⟩
 rw [← Env.kill_set] at hf
 have hot : ∀ b ∈ O V, ¬ w0.pr b ∧ b < w.heap.size ∧ ¬ F b ∧ ∀ u, b ∉ (if u = V then [] else O u) := fun b hb => by
  obtain ⟨h1, h2, h3⟩ := h.own V b hb
  refine ⟨h1, h2, h3, fun u hc => ?_⟩
  by_cases hu : u = V
  ·simp [hu] at hc
  ·simp only [hu, if_false] at hc
   exact h.apart u V hu b hc hb
 have hav' : args.map a.eval = (a.eval x :: xs.map a.eval).toArray := by
  apply Array.toList_inj.1
  simp [hargs]
 have ho : (execOp a.eval o).run P w = (callFunc f (a.eval x :: xs.map a.eval).toArray).run P w := by
  rw [← hav']
  simp only [execOp, hop, resolve, Act.eval, Deferred.ofValue, Sem.run_bind, Sem.run_pure, Result.andThen_ok, invoke]
  congr 2
  apply Array.toList_inj.1
  simp
 have hlt : V < slotN N := slot_lt hf.size (by rw [← hvV]; exact hhr.not_undef)
 unfold Oper.wp
 rw [ho, run_callFunc hfun, Oper.upon_enter]
 simp only [Bool.or_eq_true, Bool.and_eq_true] at hfr
 rcases hfr with ⟨hfr, hfull⟩ | ⟨hkept, hlow⟩
 ·have hA := argsTV_sound hf (opds_ok hf (ok := []) (fun g hg => by cases hg) xs) hav hlo
  refine (hcall w (FC F fun t => if t = V then [] else O t) (a.eval x) (O V) (xs.map a.eval) hf.fc.lt (hf.lays.ext hf.fc) (hhr.mono hf.fc fun b _ => rfl) (h.nodup V) (fun b hb => ⟨(hot b hb).2.1, fun hc => ?_⟩) hA).mono fun ed w' ⟨vr, F1, Or, Oi, he, hres, hinn, hout⟩ => ?_
  ·rcases hc with hc | ⟨u, hc⟩
   ·exact (hot b hb).2.2.1 hc
   ·exact (hot b hb).2.2.2 u hc
  subst he
  obtain ⟨Or', R, hp, hk⟩ := res_fresh hres hfr
  have hnd := List.nodup_append.1 hout.nodup
  have hnd2 := List.nodup_append.1 (hp.nodup_iff.1 hnd.2.1)
  have hsz : w.heap.size ≤ w'.heap.size := hout.below.size
  have hstay : ∀ b, FC F (fun t => if t = V then [] else O t) b → w'.heap[b]? = w.heap[b]? := fun b hb => hout.below.block b ⟨hf.fc.lt b hb, fun hc => by
   rcases hb with hb | ⟨u, hb⟩
   ·exact (hot b hc).2.2.1 hb
   ·exact (hot b hc).2.2.2 u hb⟩
  have hkept : Kept w0 w' := ⟨hout.below.os.trans hf.below.os, hout.below.tape.trans hf.below.tape, hout.below.output.trans hf.below.output, Nat.le_trans hf.below.size hsz, fun b hb => (hout.below.block b ⟨Nat.lt_of_lt_of_le (w0.lt b hb) hf.below.size, fun hc => (hot b hc).1 hb⟩).trans (hf.below.block b hb)⟩
  have hw1 := hf.world hkept hsz (fun b hb => hstay b (.inl hb)) fun u b hb => hstay b (.inr ⟨u, hb⟩)
  have hnew : ∀ b ∈ Oi ++ Or, ¬ w0.pr b ∧ b < w'.heap.size ∧ ¬ F b ∧ ∀ u, b ∉ (if u = V then [] else O u) := fun b hb => by
   obtain ⟨n1, n2, n3⟩ := hout.new b hb
   refine ⟨fun hc => n1 ⟨Nat.lt_of_lt_of_le (w0.lt b hc) hf.below.size, fun hc2 => (hot b hc2).1 hc⟩, n2, fun hc => n3 (hout.sub b (.inl hc)), fun u hc => n3 (hout.sub b (.inr ⟨u, hc⟩))⟩
  have hOr : ∀ b ∈ Or', b ∈ Or := fun b hb => hp.mem_iff.2 (List.mem_append_left _ hb)
  have hR : ∀ b ∈ R, b ∈ Or := fun b hb => hp.mem_iff.2 (List.mem_append_right _ hb)
  have hw2 := hw1.more (R := R) fun b hb => by
   obtain ⟨n1, n2, n3, n4⟩ := hnew b (List.mem_append_right _ (hR b hb))
   exact ⟨n1, n2, n4⟩
  obtain ⟨O1, hfin⟩ := inn_behind (s := s) hev hlt hw2 (by rw [← hvV]; exact hinn.full hfull) (hk _ hw2.lt fun b hb => .inr hb) (List.nodup_append.2 ⟨hnd.1, hnd2.1, fun b hb c hc => hnd.2.2 b hb c (hOr c hc)⟩) fun b hb => by
   rcases List.mem_append.1 hb with hb | hb
   ·obtain ⟨n1, n2, n3, n4⟩ := hnew b (List.mem_append_left _ hb)
    refine ⟨n1, n2, fun hc => ?_, n4⟩
    rcases hc with hc | hc
    ·exact n3 hc
    ·exact hnd.2.2 b hb b (hR b hc) rfl
   ·obtain ⟨n1, n2, n3, n4⟩ := hnew b (List.mem_append_right _ (hOr b hb))
    refine ⟨n1, n2, fun hc => ?_, n4⟩
    rcases hc with hc | hc
    ·exact n3 hc
    ·exact hnd2.2.2 b hb b hc rfl
  exact hK _ w' _ _ hfin
 ·have hA := argsTV_kept hf (opds_ok hf (ok := []) (fun g hg => by cases hg) xs) hav hlo hkept
  refine (hcall w F (a.eval x) (O V) (xs.map a.eval) hf.lt hf.lays hhr (h.nodup V) (fun b hb => ⟨(hot b hb).2.1, (hot b hb).2.2.1⟩) hA).mono fun ed w' ⟨vr, F1, Or, Oi, he, hres, hinn, hout⟩ => ?_
  subst he
  obtain ⟨Or', R, hp, hk⟩ := res_low hres hlow
  have hnd := List.nodup_append.1 hout.nodup
  have hnd2 := List.nodup_append.1 (hp.nodup_iff.1 hnd.2.1)
  have hsz : w.heap.size ≤ w'.heap.size := hout.below.size
  have hstay : ∀ b, FC F (fun t => if t = V then [] else O t) b → w'.heap[b]? = w.heap[b]? := fun b hb => hout.below.block b ⟨hf.fc.lt b hb, fun hc => by
   rcases hb with hb | ⟨u, hb⟩
   ·exact (hot b hc).2.2.1 hb
   ·exact (hot b hc).2.2.2 u hb⟩
  have hkept : Kept w0 w' := ⟨hout.below.os.trans hf.below.os, hout.below.tape.trans hf.below.tape, hout.below.output.trans hf.below.output, Nat.le_trans hf.below.size hsz, fun b hb => (hout.below.block b ⟨Nat.lt_of_lt_of_le (w0.lt b hb) hf.below.size, fun hc => (hot b hc).1 hb⟩).trans (hf.below.block b hb)⟩
  have hw1 := hf.world hkept hsz (fun b hb => hstay b (.inl hb)) fun u b hb => hstay b (.inr ⟨u, hb⟩)
  have hold : ∀ b, F1 b → b < w.heap.size → b ∉ O V → F b := fun b hb h1 h2 => hout.old b hb ⟨h1, h2⟩
  have hnoV : ∀ b ∈ O V, ∀ u, b ∉ (if u = V then [] else O u) := fun b hb => (hot b hb).2.2.2
  have hOr : ∀ b ∈ Or', b ∈ Or := fun b hb => hp.mem_iff.2 (List.mem_append_left _ hb)
  have hR : ∀ b ∈ R, b ∈ Or := fun b hb => hp.mem_iff.2 (List.mem_append_right _ hb)
  have hext : Ext w' F1 w' (fun b => F1 b ∨ b ∈ R) := ⟨fun _ hb => .inl hb, fun _ _ => rfl, fun b hb => hb.elim (hout.lt b) fun hb => (hout.new b (List.mem_append_right _ (hR b hb))).2.1⟩
  have hown : ∀ u, ∀ b ∈ (if u = V then [] else O u), b < w.heap.size ∧ b ∉ O V ∧ ¬ F b := fun u b hb => by
   by_cases hu : u = V
   ·simp [hu] at hb
   ·simp only [hu, if_false] at hb
    obtain ⟨g1, g2, g3⟩ := h.own u b hb
    exact ⟨g2, fun hc => h.apart u V hu b hb hc, g3⟩
  have hw2 := hw1.grow (F1 := fun b => F1 b ∨ b ∈ R) (fun b hb => .inl (hout.sub b hb)) hext.lt (fun b hb hpr => ?_) fun u b hb hc => ?_
  rotate_left
  ·have hb1 : b < w.heap.size := Nat.lt_of_lt_of_le (w0.lt b hpr) h.below.size
   have hb2 : b ∉ O V := fun hc => (hot b hc).1 hpr
   rcases hb with hb | hb
   ·exact h.old b (hold b hb hb1 hb2) hpr
   ·exact absurd ⟨hb1, hb2⟩ (hout.new b (List.mem_append_right _ (hR b hb))).1
  ·obtain ⟨g1, g2, g3⟩ := hown u b hb
   rcases hc with hc | hc
   ·exact g3 (hold b hc g1 g2)
   ·exact (hout.new b (List.mem_append_right _ (hR b hc))).1 ⟨g1, g2⟩
  have hnew : ∀ b ∈ Oi ++ Or, ¬ w0.pr b ∧ b < w'.heap.size ∧ ¬ F1 b ∧ ∀ u, b ∉ (if u = V then [] else O u) := fun b hb => by
   obtain ⟨n1, n2, n3⟩ := hout.new b hb
   refine ⟨fun hc => n1 ⟨Nat.lt_of_lt_of_le (w0.lt b hc) hf.below.size, fun hc2 => (hot b hc2).1 hc⟩, n2, n3, fun u hc => ?_⟩
   obtain ⟨g1, g2, g3⟩ := hown u b hc
   exact n1 ⟨g1, g2⟩
  obtain ⟨O1, hfin⟩ := inn_behind (s := s) hev hlt hw2 (by rw [← hvV]; exact hinn.mono hext fun b _ => rfl) (hk _ hext fun b hb => .inr hb) (List.nodup_append.2 ⟨hnd.1, hnd2.1, fun b hb c hc => hnd.2.2 b hb c (hOr c hc)⟩) fun b hb => by
   rcases List.mem_append.1 hb with hb | hb
   ·obtain ⟨n1, n2, n3, n4⟩ := hnew b (List.mem_append_left _ hb)
    refine ⟨n1, n2, fun hc => ?_, n4⟩
    rcases hc with hc | hc
    ·exact n3 hc
    ·exact hnd.2.2 b hb b (hR b hc) rfl
   ·obtain ⟨n1, n2, n3, n4⟩ := hnew b (List.mem_append_right _ (hOr b hb))
    refine ⟨n1, n2, fun hc => ?_, n4⟩
    rcases hc with hc | hc
    ·exact n3 hc
    ·exact hnd2.2.2 b hb b hc rfl
  exact hK _ w' _ _ hfin
theorem evHand_sound {E E' : Env} (h : Fr P N w0 F0 G E.at a.tmps w F O) {tys : Tys} (ht : tys.ok P = true) {A : Array Oper} {o : Oper} {sup sup' : List Sup} {l : List Prop} (hev : evHand P tys N E o sup = some (E', l, sup')) (hl : ∀ p ∈ l, p) {K : Act → World → Prop} {Q : Exit → Act → World → Prop}
  (hK : ∀ v w1 F1 O1, Fr P N w0 F0 G E'.at (a.put o.dst v).tmps w1 F1 O1 → K (a.put o.dst v) w1) :
  if Region.wanted o (yielded A a.tmps) then o.wp P a w K Q ∨ (o.asks P a w ∧ LetsOut Q) else K (a.put o.dst undef) w := by
 unfold evHand at hev
 split at hev
 ·exact evOwn_sound h ht hev hl hK
 ·exact evInn_sound h ht hev hl hK
 ·simp at hev
end
end Go.Tom
set_option linter.unusedVariables false
set_option linter.unusedSimpArgs false
namespace Go.Tom
open Go
def sameRoot (s s' : S) : Prop := s' = s ∨ (∃ n m τ x, s = .v n τ x ∧ s' = .v m τ x) ∨ ∃ n m τ x, s = .box n τ x ∧ s' = .box m τ x
theorem low_same (n : Lv) (s : S) : sameRoot s (low n s) := by
 cases s <;> first | exact .inl rfl | exact .inr (.inl ⟨_, _, _, _, rfl, rfl⟩) | exact .inr (.inr ⟨_, _, _, _, rfl, rfl⟩)
theorem PlaceOf.relevel {w : World} {s s' : S} (h : sameRoot s s') {v : Value} {p : List Step} {τ' : Ty} {cs' : List Value} {l' : Option (Nat × Nat)} (hp : PlaceOf w s v p τ' cs' l') : PlaceOf w s' v p τ' cs' l' := by
 rcases h with rfl | ⟨n, m, τ, x, rfl, rfl⟩ | ⟨n, m, τ, x, rfl, rfl⟩
 ·exact hp
 ·exact hp
 ·exact hp
theorem SRep.relevel {P : Program} {G : Nat × Bool → Bool} {w : World} {F : Nat → Prop} {T : Array Value} {e e' : Nat → S} {v : Value} (he : ∀ V, sameRoot (e V) (e' V)) :
  ∀ {s : S} {O : List Nat}, SRep P G w F T e v s O → SRep P G w F T e' v s O := by
 have tup : ∀ V rs, e V = .tup rs → e' V = .tup rs := fun V rs h => by
  rcases he V with h1 | ⟨n, m, τ, x, h1, _⟩ | ⟨n, m, τ, x, h1, _⟩
  ·rw [h1]; exact h
  ·rw [h] at h1; simp at h1
  ·rw [h] at h1; simp at h1
 intro s
 induction s with
 | ref V p => intro O h; obtain ⟨h0, b, o, τ', cs', h1, h2⟩ := h; exact ⟨h0, b, o, τ', cs', h1, h2.relevel (he V)⟩
 | bor V p =>
  intro O h
  obtain ⟨h0, ⟨k1, k2, k3⟩ | ⟨τ', cs', l, k1, k2⟩⟩ := h
  ·refine ⟨h0, .inl ⟨?_, k2, k3⟩⟩
   rcases he V with h1 | ⟨n, m, τ, x, h1, _⟩ | ⟨n, m, τ, x, h1, _⟩
   ·rw [h1]; exact k1
   ·rw [h1] at k1; simp [passive] at k1
   ·rw [h1] at k1; simp [passive] at k1
  ·exact ⟨h0, .inr ⟨τ', cs', l, k1, k2.relevel (he V)⟩⟩
 | ext V i => intro O h; obtain ⟨h0, rs, vs, k1, k2, k3⟩ := h; exact ⟨h0, rs, vs, tup V rs k1, k2, k3⟩
 | bsl V p lo hi => intro O h; obtain ⟨h0, a, len, cap, e1, cs', l, k1, k2, k3⟩ := h; exact ⟨h0, a, len, cap, e1, cs', l, k1, k2.relevel (he V), k3⟩
 | hrf V l =>
  intro O h
  refine ⟨h.1, fun hl => ?_⟩
  obtain ⟨bx, n, σ, x, p, b, o, τ', cs, cs', l', k1, k2⟩ := h.2 hl
  refine ⟨bx, n, σ, x, p, b, o, τ', cs, cs', l', ?_, k2⟩
  rcases he V with h1 | ⟨n, m, τ, x, h1, _⟩ | ⟨n, m, τ, x, h1, _⟩
  ·rw [h1]; exact k1
  ·rw [k1] at h1; simp at h1
  ·rw [k1] at h1; simp at h1
 | cnd g s ih => intro O h; exact ⟨fun hg => ih (h.1 hg), h.2⟩
 | clo f caps => intro O h; exact h
 | dead => intro O h; exact h
 | v n τ x => intro O h; exact h
 | box n τ x => intro O h; exact h
 | tup rs => intro O h; exact h
 | nil => intro O h; exact h
 | hol bx n τ x p => intro O h; cases bx <;> exact h
section
variable {P : Program} {N : Nat} {w0 : Start} {w : World} {F0 F : Nat → Prop} {Gff : Nat × Bool → Bool} {T : Array Value} {O : Nat → List Nat}
theorem Fr.low {E : Env} (h : Fr P N w0 F0 Gff E.at T w F O) (V : Nat) (n : Lv) : ∃ F' O', Fr P N w0 F0 Gff (E.low V n).at T w F' O' := by
 have hE : ∀ t, (E.low V n).at t = if t = V then Tom.low n (E.at V) else E.at t := fun t => Env.at_set ..
 have hsame : ∀ t, sameRoot (E.at t) ((E.low V n).at t) := fun t => by
  rw [hE]
  split
  ·rename_i ht; rw [ht]; exact low_same ..
  ·exact .inl rfl
 have hrepV := h.rep V
 have key : ∃ (R Ov : List Nat), (∀ b ∈ R, b ∈ O V ∧ b ∉ Ov) ∧ Ov.Nodup ∧ (∀ b ∈ Ov, b ∈ O V) ∧ ∀ F', Ext w F w F' → (∀ b ∈ R, F' b) → SRep P Gff w F' T E.at (T.getD V undef) (Tom.low n (E.at V)) Ov := by
  have nochange : Tom.low n (E.at V) = E.at V → ∃ (R Ov : List Nat), (∀ b ∈ R, b ∈ O V ∧ b ∉ Ov) ∧ Ov.Nodup ∧ (∀ b ∈ Ov, b ∈ O V) ∧ ∀ F', Ext w F w F' → (∀ b ∈ R, F' b) → SRep P Gff w F' T E.at (T.getD V undef) (Tom.low n (E.at V)) Ov := fun hc =>
   ⟨[], O V, (fun b hb => by cases hb), h.nodup V, (fun b hb => hb), fun F' he _ => by rw [hc]; exact hrepV.keep he (fun _ _ _ => rfl) h.rep (fun _ _ => rfl)⟩
  cases hs : E.at V with
  | v m τ x =>
   rw [hs] at hrepV
   obtain ⟨cs, h1, h2⟩ := hrepV
   have hle : Lv.le (Lv.mn n m) m = true := Lv.mn_le
   obtain ⟨O', R, hp, hk⟩ := h2.lower hle
   have hnd := hp.nodup_iff.1 (h.nodup V)
   exact ⟨R, O', (fun b hb => ⟨hp.mem_iff.2 (List.mem_append_right _ hb), fun hb' => (List.nodup_append.1 hnd).2.2 b hb' b hb rfl⟩), (List.nodup_append.1 hnd).1, (fun b hb => hp.mem_iff.2 (List.mem_append_left _ hb)), fun F' he hR => ⟨cs, h1, hk F' he hR⟩⟩
  | box m τ x =>
   rw [hs] at hrepV
   obtain ⟨b0, cs, el, Ox, h1, h2, h3, h4⟩ := hrepV
   have hle : Lv.le (Lv.mn n m) m = true := Lv.mn_le
   obtain ⟨O', R, hp, hk⟩ := h3.lower hle
   have hndV := h.nodup V
   rw [h4, List.nodup_cons] at hndV
   have hnd := hp.nodup_iff.1 hndV.2
   refine ⟨R, b0 :: O', (fun b hb => ⟨?_, fun hb' => ?_⟩), List.nodup_cons.2 ⟨fun hc => hndV.1 (hp.mem_iff.2 (List.mem_append_left _ hc)), (List.nodup_append.1 hnd).1⟩, (fun b hb => ?_), fun F' he hR => ⟨b0, cs, el, O', h1, h2, hk F' he hR, rfl⟩⟩
   ·rw [h4]; exact List.mem_cons_of_mem _ (hp.mem_iff.2 (List.mem_append_right _ hb))
   ·rcases List.mem_cons.1 hb' with rfl | hb'
    ·exact hndV.1 (hp.mem_iff.2 (List.mem_append_right _ hb))
    ·exact (List.nodup_append.1 hnd).2.2 b hb' b hb rfl
   ·rw [h4]
    rcases List.mem_cons.1 hb with rfl | hb
    ·exact List.mem_cons_self ..
    ·exact List.mem_cons_of_mem _ (hp.mem_iff.2 (List.mem_append_left _ hb))
  | _ => rw [hs] at nochange; exact nochange rfl
 obtain ⟨R, Ov, hR, hnd, hsub, hk⟩ := key
 have hRl : ∀ b ∈ R, ¬ w0.pr b ∧ b < w.heap.size ∧ ¬ F b := fun b hb => h.own V b (hR b hb).1
 have hext : Ext w F w (fun b => F b ∨ b ∈ R) := ⟨fun _ hb => .inl hb, fun _ _ => rfl, fun b hb => hb.elim (h.lt b) fun hb => (hRl b hb).2.1⟩
 refine ⟨fun b => F b ∨ b ∈ R, fun t => if t = V then Ov else O t, h.size, h.fixed, h.below, fun b hb => .inl (h.sub b hb), hext.lt, fun b hb hlt => ?_, fun t => ?_, fun t => ?_, fun t b hb => ?_, fun t t' htt b hb hb' => ?_, h.lays.ext hext⟩
 ·rcases hb with hb | hb
  ·exact h.old b hb hlt
  ·exact absurd hlt (hRl b hb).1
 ·rw [hE]
  by_cases ht : t = V
  ·subst ht
   simp only [if_true]
   exact (hk _ hext fun b hb => .inr hb).relevel hsame
  ·simp only [ht, if_false]
   exact ((h.rep t).keep hext (fun _ _ _ => rfl) h.rep (fun _ _ => rfl)).relevel hsame
 ·by_cases ht : t = V
  ·simp only [ht, if_true]; exact hnd
  ·simp only [ht, if_false]; exact h.nodup t
 ·by_cases ht : t = V
  ·simp only [ht, if_true] at hb
   obtain ⟨g1, g2, g3⟩ := h.own V b (hsub b hb)
   exact ⟨g1, g2, fun hF => hF.elim g3 fun hbR => (hR b hbR).2 hb⟩
  ·simp only [ht, if_false] at hb
   obtain ⟨g1, g2, g3⟩ := h.own t b hb
   exact ⟨g1, g2, fun hF => hF.elim g3 fun hbR => h.apart V t (Ne.symm ht) b (hR b hbR).1 hb⟩
 ·have h1 : b ∈ O t := by
   by_cases ht : t = V
   ·simp only [ht, if_true] at hb; rw [ht]; exact hsub b hb
   ·simpa only [ht, if_false] using hb
  have h2 : b ∈ O t' := by
   by_cases ht : t' = V
   ·simp only [ht, if_true] at hb'; rw [ht]; exact hsub b hb'
   ·simpa only [ht, if_false] using hb'
  exact h.apart t t' htt b h1 h2
theorem gcond_low {ops : List Oper} {E : Env} {V : Nat} {n : Lv} {G : Gs} {g : Nat × Bool} {c : Bool} (h : gcond ops E.at G g = some c) : gcond ops (E.low V n).at G g = some c := by
 unfold gcond at h ⊢
 split at h
 ·simp at h
 ·rename_i d hd
  have hE : (E.low V n).at d = if d = V then Tom.low n (E.at V) else E.at d := Env.at_set ..
  by_cases hdV : d = V
  ·rw [hE, if_pos hdV]
   rw [hdV] at h
   cases hs : E.at V with
   | v m τ β =>
    rw [hs] at h
    cases τ <;> first
     | exact h
     |(simp at h; done)
   | cnd g' s => rw [hs] at h; exact h
   | _ => rw [hs] at h; simp at h
  ·rw [hE, if_neg hdV]
   exact h
theorem fzs_sound {ops : List Oper} {G : Gs} {d : Option Nat} : ∀ {l : List Sup} {E : Env} {F : Nat → Prop} {O : Nat → List Nat}, Fr P N w0 F0 Gff E.at T w F O → (∀ g c, G.at g = some c → gcond ops E.at G g = some c) →
  (∃ F' O', Fr P N w0 F0 Gff (fzs d l E).1.at T w F' O') ∧ ∀ g c, G.at g = some c → gcond ops (fzs d l E).1.at G g = some c
 | .fz k V n :: l, E, F, O, h, hg => by
  simp only [fzs]
  split
  ·obtain ⟨F', O', h'⟩ := h.low V n
   exact fzs_sound (l := l) h' fun g c hgc => gcond_low (hg g c hgc)
  ·exact ⟨⟨F, O, h⟩, hg⟩
 | [], E, F, O, h, hg => ⟨⟨F, O, h⟩, hg⟩
 | .res _ :: _, E, F, O, h, hg => ⟨⟨F, O, h⟩, hg⟩
 | .fn _ _ _ :: _, E, F, O, h, hg => ⟨⟨F, O, h⟩, hg⟩
 | .frz :: _, E, F, O, h, hg => ⟨⟨F, O, h⟩, hg⟩
 | .own :: _, E, F, O, h, hg => ⟨⟨F, O, h⟩, hg⟩
 | .inn _ :: _, E, F, O, h, hg => ⟨⟨F, O, h⟩, hg⟩
end
end Go.Tom
set_option linter.unusedVariables false
set_option linter.unusedSimpArgs false
namespace Go.Tom
open Go
def Gf (G : Gs) : Nat × Bool → Bool := fun h => (G.at h).getD false
def GOk (ops : List Oper) (e : Nat → S) (G : Gs) : Prop := ∀ g c, G.at g = some c → gcond ops e G g = some c
theorem Gs.at_cons (g : Nat × Bool) (c : Bool) (G : Gs) (h : Nat × Bool) : Gs.at ((g, c) :: G) h = if g = h then some c else G.at h := by
 simp only [Gs.at]
 by_cases hh : g = h
 ·subst hh; simp [Nat.beq_refl]
 ·rw [if_neg hh, if_neg]
  simp only [Bool.and_eq_true, beq_iff_eq]
  rintro ⟨h1, h2⟩
  exact hh (Prod.ext (Nat.eq_of_beq_eq_true h1) h2)
def Gle (G G' : Gs) : Prop := ∀ g c, G.at g = some c → G'.at g = some c
theorem gcond_congr {ops : List Oper} {e e' : Nat → S} {G G' : Gs} (hG : Gle G G') {g : Nat × Bool} {c : Bool} (he : ∀ d, gslot ops g.1 = some d → e d = .dead ∨ e' d = e d) (h : gcond ops e G g = some c) : gcond ops e' G' g = some c := by
 unfold gcond at h ⊢
 split at h
 ·simp at h
 ·rename_i d hd
  rcases he d hd with hz | hz
  ·rw [hz] at h; simp at h
  ·rw [hz]
   split at h
   ·simpa using h
   ·split at h
    ·rename_i c' hc'
     rw [hG _ _ hc']; exact h
    ·simp at h
   ·simp at h
theorem anc_sound {ops : List Oper} {e e' : Nat → S} {G : Gs} {Gff : Nat × Bool → Bool} (hle : ∀ t, e t = .dead ∨ e t = e' t) (hG : GOk ops e' G) (hGf : ∀ g c, G.at g = some c → Gff g = c) :
  ∀ {k : Nat} {g : Nat × Bool}, Gff g = true → gcond ops e' G g = some true → ∀ h ∈ anc ops e k g, Gff h = true := by
 intro k
 induction k with
 | zero => intro g hg _ h hh; rw [anc, List.mem_singleton] at hh; rw [hh]; exact hg
 | succ k ih =>
  intro g hg hc h hh
  rw [anc] at hh
  rcases List.mem_cons.1 hh with rfl | hh
  ·exact hg
  ·split at hh
   ·rename_i d hd
    split at hh
    ·rename_i g' s hs
     rcases hle d with hz | hz
     ·rw [hz] at hs; simp at hs
     ·rw [hz] at hs
      unfold gcond at hc
      rw [hd] at hc
      simp only [hs] at hc
      split at hc
      ·simp at *
      ·rename_i g1 n β hgs
       simp only [S.cnd.injEq] at hgs
       obtain ⟨rfl, rfl⟩ := hgs
       split at hc
       ·rename_i c' hc'
        simp only [Option.some.injEq, Bool.and_eq_true] at hc
        have hct : c' = true := hc.1
        subst hct
        exact ih (hGf _ _ hc') (hG _ _ hc') h hh
       ·simp at hc
      ·simp at hc
    ·cases hh
   ·cases hh
section
variable {P : Program} {N : Nat} {w0 : Start} {w : World} {F0 F : Nat → Prop} {e e' : Nat → S} {a : Act} {T : Array Value} {O : Nat → List Nat} {Gff : Nat × Bool → Bool}
theorem pickG_mem {ops : List Oper} {b : Bool} {c : Nat} {G0 : Gs} : ∀ {G : Gs}, (∀ q ∈ G, ∃ c, G0.at q.1 = some c) → ∀ h ∈ pickG ops b c G, gslot ops h.1 = some c ∧ h.2 = b ∧ ∃ v, G0.at h = some v
 | [], _, h, hh => by cases hh
 |(g, v) :: G, hall, h, hh => by
  have rest := pickG_mem (ops := ops) (b := b) (c := c) (G := G) fun q hq => hall q (List.mem_cons_of_mem _ hq)
  simp only [pickG] at hh
  split at hh
  ·rename_i d hd
   split at hh
   ·rename_i hc
    simp only [Bool.and_eq_true, beq_iff_eq] at hc
    rcases List.mem_cons.1 hh with rfl | hh
    ·have := Nat.eq_of_beq_eq_true hc.1
     subst this
     exact ⟨hd, hc.2, hall _ (List.mem_cons_self ..)⟩
    ·exact rest h hh
   ·exact rest h hh
  ·exact rest h hh
theorem Gs.at_mem : ∀ {G : Gs}, ∀ q ∈ G, ∃ c, G.at q.1 = some c
 | [], q, h => by cases h
 |(g, v) :: G, q, h => by
  rw [Gs.at_cons]
  split
  ·exact ⟨v, rfl⟩
  ·rename_i hne
   rcases List.mem_cons.1 h with rfl | h
   ·exact absurd rfl hne
   ·exact Gs.at_mem q h
theorem pick_guards {ops : List Oper} {G : Gs} {ok : List (Nat × Bool)} (hle : ∀ t, e t = .dead ∨ e t = e' t) (hG : GOk ops e' G) (hGf : ∀ g c, G.at g = some c → Gff g = c) (hok : ∀ g ∈ ok, Gff g = true) {o : Oper} {c x y : Operand} (hop : o.op = .pick c x y) {β : Bool} (hβ : rdBool (opd ok e c) = some β) :
  ∀ g ∈ pickOk ops G o β ok, Gff g = true := by
 intro g hg
 unfold pickOk at hg
 rw [hop] at hg
 cases c with
 | tmp t =>
  simp only at hg
  rcases List.mem_append.1 hg with hg | hg
  ·obtain ⟨h1, h2, v, hv⟩ := pickG_mem (G0 := G) Gs.at_mem g hg
   have hgc := hG _ _ hv
   have hvt : v = true := by
    unfold gcond at hgc
    rw [h1] at hgc
    simp only at hgc
    rcases hle t with hz | hz
    ·simp [opd, hz, rdBool, rdk] at hβ
    ·rw [← hz] at hgc
     split at hgc
     ·rename_i n β' he
      simp only [Option.some.injEq] at hgc
      simp only [opd, he, rdBool, rdk, zLv, if_true, Option.some.injEq] at hβ
      subst hβ
      rw [← hgc, h2]
      cases β' <;> rfl
     ·rename_i g' n β' he
      split at hgc
      ·rename_i c' hc'
       simp only [Option.some.injEq] at hgc
       simp only [opd, he] at hβ
       split at hβ
       ·rename_i hin
        simp only [rdBool, rdk, zLv, if_true, Option.some.injEq] at hβ
        subst hβ
        have := hok _ (gIn_mem hin)
        rw [hGf _ _ hc'] at this
        rw [← hgc, h2, this]
        cases β' <;> rfl
       ·simp [rdBool, rdk] at hβ
      ·simp at hgc
     ·simp at hgc
   rw [hGf _ _ hv, hvt]
  ·exact hok g hg
 | _ => exact hok g hg
theorem SRep.bool_at {d : Nat} {n : Lv} {β : Bool} {v : Value} {Os : List Nat} (h : SRep P Gff w F T e v (.v n .bool β) Os) : v = .bool β := by
 obtain ⟨cs, h1, h2, _⟩ := h
 rw [h1] at h2
 simpa using h2
theorem quiet_sound {A : Array Oper} (h : Fr P N w0 F0 Gff e a.tmps w F O) {tys : Tys} (ht : tys.ok P = true) (hle : ∀ t, e t = .dead ∨ e t = e' t) {G G' : Gs} (hG : GOk A.toList e' G) {o : Oper} {sup sup' : List Sup} {s : S} {l : List Prop}
  (hq : quiet P tys A.toList e G o sup = some (s, l, sup', G')) (hGf : ∀ g c, G'.at g = some c → Gff g = c) (hl : ∀ p ∈ l, p) {K : Act → World → Prop} {Q : Exit → Act → World → Prop}
  (hK : ∀ v w' F' On, Out w F w' F' On → SRep P Gff w' F' a.tmps e v s On → K (a.put o.dst v) w') :
  if Region.wanted o (yielded A a.tmps) then o.wp P a w K Q ∨ (o.asks P a w ∧ LetsOut Q) else K (a.put o.dst undef) w := by
 unfold quiet at hq
 split at hq
 ·rename_i hg
  split at hq
  ·rename_i s1 l1 sup1 hev
   simp only [Option.some.injEq, Prod.mk.injEq] at hq
   obtain ⟨rfl, rfl, rfl, rfl⟩ := hq
   have hw : Region.wanted o (yielded A a.tmps) = true := by simp [Region.wanted, hg]
   rw [if_pos hw]
   left
   have hok0 : ∀ g ∈ ([] : List (Nat × Bool)), Gff g = true := fun g hg => by cases hg
   exact evalQ_sound h ht hok0 (fun c x y hop β hβ => ⟨fun hb => by subst hb; exact pick_guards hle hG hGf hok0 hop hβ, fun hb => by subst hb; exact pick_guards hle hG hGf hok0 hop hβ⟩) hev hl K Q hK
  ·simp at hq
 ·rename_i g hg
  split at hq
  ·simp at hq
  ·rename_i c hc
   split at hq
   ·rename_i s1 l1 sup1 hev
    simp only [Option.some.injEq, Prod.mk.injEq] at hq
    obtain ⟨rfl, rfl, rfl, hG'⟩ := hq
    have hgl : Gle G G' := by
     subst hG'
     cases hat : G.at g with
     | some c0 => exact fun _ _ h => h
     | none =>
      intro g0 c0 h0
      simp only
      rw [Gs.at_cons]
      split
      ·rename_i hgg; subst hgg; rw [hat] at h0; simp at h0
      ·exact h0
    have hGf0 : ∀ g c, G.at g = some c → Gff g = c := fun g c hgc => hGf g c (hgl g c hgc)
    have hc' : gcond A.toList e' G g = some c := gcond_congr (fun _ _ h => h) (fun d _ => by
     rcases hle d with hz | hz
     ·exact .inl hz
     ·exact .inr hz.symm) hc
    have hgc : Gff g = c := by
     refine hGf g c ?_
     subst hG'
     cases hat : G.at g with
     | some c0 =>
      simp only
      have := hG _ _ hat
      rw [hc'] at this
      rw [hat, ← this]
     | none =>
      simp only
      rw [Gs.at_cons, if_pos rfl]
    have hw : Region.wanted o (yielded A a.tmps) = c := by
     simp only [Region.wanted, hg]
     unfold gcond at hc
     split at hc
     ·simp at hc
     ·rename_i d hd
      have hd' : (A[g.1]?).bind (·.dst) = some d := by
       simpa [gslot] using hd
      have hrd := h.rep d
      have hval : ∀ β, a.tmps.getD d undef = .bool β → yielded A a.tmps g.1 = some β := by
       intro β hb
       simp only [yielded, hd', Option.bind_some]
       by_cases hlt : d < a.tmps.size
       ·simp only [Array.getD, hlt, dif_pos] at hb
        rw [Array.getElem?_eq_getElem hlt]
        have : a.tmps[d] = .bool β := hb
        rw [this]
       ·simp [Array.getD, hlt, undef] at hb
      have hund : a.tmps.getD d undef = undef → yielded A a.tmps g.1 = none := by
       intro hb
       simp only [yielded, hd', Option.bind_some]
       by_cases hlt : d < a.tmps.size
       ·simp only [Array.getD, hlt, dif_pos] at hb
        rw [Array.getElem?_eq_getElem hlt]
        have : a.tmps[d] = undef := hb
        rw [this]
        rfl
       ·rw [Array.getElem?_eq_none (by omega)]
      split at hc
      ·rename_i n β he
       rw [he] at hrd
       simp only [Option.some.injEq] at hc
       rw [hval β (SRep.bool_at (d := d) hrd), ← hc]
       cases g.2 <;> cases β <;> rfl
      ·rename_i g' n β he
       rw [he] at hrd
       split at hc
       ·rename_i c1 hc1
        simp only [Option.some.injEq] at hc
        have hg1 := hGf0 _ _ hc1
        cases hcc : c1 with
        | true =>
         rw [hcc] at hg1 hc
         rw [hval β (SRep.bool_at (d := d) (hrd.1 hg1)), ← hc]
         cases g.2 <;> cases β <;> rfl
        | false =>
         rw [hcc] at hg1 hc
         rw [hund (hrd.2 hg1).1, ← hc]
         rfl
       ·simp at hc
      ·simp at hc
    rw [hw]
    cases c with
    | false =>
     simp only [Bool.false_eq_true, if_false]
     exact hK undef w F [] (Out.refl h.lt) ⟨fun hgt => by rw [hgc] at hgt; simp at hgt, fun _ => ⟨rfl, rfl⟩⟩
    | true =>
     simp only [if_true]
     left
     have hok := anc_sound (k := A.toList.length) hle hG hGf0 hgc hc'
     refine evalQ_sound h ht hok (fun c x y hop β hβ => ⟨fun hb => by subst hb; exact pick_guards hle hG hGf0 hok hop hβ, fun hb => by subst hb; exact pick_guards hle hG hGf0 hok hop hβ⟩) hev (fun p hp => hl _ (List.mem_map.2 ⟨p, hp, rfl⟩) rfl) K Q ?_
     intro v w' F' On ho hs
     exact hK v w' F' On ho ⟨fun _ => hs, fun hgt => by rw [hgc] at hgt; simp at hgt⟩
   ·simp at hq
theorem SRep.guards {Gf1 Gf2 : Nat × Bool → Bool} {v : Value} : ∀ {s : S} {Os : List Nat}, SRep P Gf1 w F T e v s Os → (∀ g, hasG g s = true → Gf2 g = Gf1 g) → SRep P Gf2 w F T e v s Os := by
 intro s
 induction s with
 | cnd g s ih =>
  intro Os h hg
  have h1 := hg g (by simp [hasG, Nat.beq_refl])
  refine ⟨fun hh => ih (h.1 (by rw [← h1]; exact hh)) fun g' hg' => hg g' (by simp [hasG, hg']), fun hh => h.2 (by rw [← h1]; exact hh)⟩
 | ref _ _ => intro Os h _; exact h
 | bor _ _ => intro Os h _; exact h
 | ext _ _ => intro Os h _; exact h
 | clo _ _ => intro Os h _; exact h
 | bsl _ _ _ _ => intro Os h _; exact h
 | hrf _ _ => intro Os h _; exact h
 | dead => intro Os h _; exact h
 | v _ _ _ => intro Os h _; exact h
 | box _ _ _ => intro Os h _; exact h
 | tup _ => intro Os h _; exact h
 | nil => intro Os h _; exact h
 | hol bx _ _ _ _ => intro Os h _; cases bx <;> exact h
theorem Fr.guards {Gf1 Gf2 : Nat × Bool → Bool} (h : Fr P N w0 F0 Gf1 e T w F O) (hg : ∀ t g, hasG g (e t) = true → Gf2 g = Gf1 g) : Fr P N w0 F0 Gf2 e T w F O :=
 ⟨h.size, h.fixed, h.below, h.sub, h.lt, h.old, fun t => (h.rep t).guards (hg t), h.nodup, h.own, h.apart, h.lays⟩
theorem Env.at_any {E : Env} {p : S → Bool} (h : (E.any fun q => p q.2) = false) (hd : p .dead = false) (t : Nat) : p (E.at t) = false := by
 induction E with
 | nil => exact hd
 | cons q E ih =>
  obtain ⟨k, s⟩ := q
  simp only [List.any_cons, Bool.or_eq_false_iff] at h
  simp only [Env.at]
  split
  ·exact h.1
  ·exact ih h.2
theorem Env.at_drop (E : Env) (t : Nat) : E.drop.at t = dropS (E.at t) := by
 induction E with
 | nil => rfl
 | cons q E ih =>
  obtain ⟨k, s⟩ := q
  simp only [Env.drop, List.map_cons, Env.at]
  split
  ·rfl
  ·exact ih
theorem Fr.drop {E : Env} {Gf2 : Nat × Bool → Bool} (h : Fr P N w0 F0 Gff E.at T w F O) : ∃ O', Fr P N w0 F0 Gf2 E.drop.at T w F O' := by
 have hsol : ∀ s, solid s = true → dropS s = s := fun s hs => by cases s <;> first | rfl | simp [solid] at hs
 have h1 : Fr P N w0 F0 Gff E.drop.at T w F (fun t => match E.at t with | .cnd _ _ => [] | _ => O t) := by
  refine h.less (fun t => ?_) fun t => ?_
  ·have hr := h.rep t
   rw [Env.at_drop]
   have other : ∀ s, E.at t = s → SRep P Gff w F T E.at (T.getD t undef) s (O t) → SRep P Gff w F T E.drop.at (T.getD t undef) s (O t) := by
    intro s hs hrs
    exact hrs.slot fun V _ => ⟨rfl, fun hV => by rw [Env.at_drop]; exact hsol _ hV⟩
   cases hs : E.at t <;> rw [hs] at hr <;> simp only [dropS]
   case cnd => rfl
   all_goals exact other _ hs hr
  ·split
   ·exact ⟨List.nodup_nil, fun b hb => by cases hb⟩
   ·exact ⟨h.nodup t, fun b hb => hb⟩
 refine ⟨_, h1.guards fun t g hg => ?_⟩
 rw [Env.at_drop] at hg
 cases hs : E.at t <;> rw [hs] at hg <;> simp [dropS, hasG] at hg
theorem effect_sound {E E' : Env} (h : Fr P N w0 F0 Gff E.at a.tmps w F O) {tys : Tys} (ht : tys.ok P = true) {A : Array Oper} {o : Oper} {l : List Prop} (hev : effect tys N E o = some (E', l)) (hl : ∀ p ∈ l, p) {K : Act → World → Prop} {Q : Exit → Act → World → Prop}
  (hK : ∀ v w1 F1 O1, Fr P N w0 F0 Gff E'.at (a.put o.dst v).tmps w1 F1 O1 → K (a.put o.dst v) w1) :
  if Region.wanted o (yielded A a.tmps) then o.wp P a w K Q ∨ (o.asks P a w ∧ LetsOut Q) else K (a.put o.dst undef) w := by
 have op0 := fun x => opd_ok h (ok := []) (fun g hg => by cases hg) x
 unfold effect at hev
 split at hev
 ·rename_i x d hg hop hdst
  have hw : Region.wanted o (yielded A a.tmps) = true := by simp [Region.wanted, hg]
  rw [if_pos hw]
  left
  split at hev
  rotate_left
  ·simp at hev
  rename_i hd
  split at hev
  rotate_left
  ·simp at hev
  rename_i E1 h1
  simp only [Option.some.injEq, Prod.mk.injEq] at hev
  obtain ⟨rfl, rfl⟩ := hev
  obtain ⟨O', hf⟩ := evAssign_sound h (inN_spec hd) (op0 x) h1
  unfold Oper.wp
  simp only [execOp, hop, Sem.run_pure, Oper.upon]
  exact hK _ w F O' (by rw [hdst]; exact hf)
 ·rename_i Tt x d hg hop hdst
  have hw : Region.wanted o (yielded A a.tmps) = true := by simp [Region.wanted, hg]
  rw [if_pos hw]
  left
  split at hev
  rotate_left
  ·simp at hev
  rename_i hd
  split at hev
  rotate_left
  ·simp at hev
  rename_i E1 h1
  simp only [Option.some.injEq, Prod.mk.injEq] at hev
  obtain ⟨rfl, rfl⟩ := hev
  obtain ⟨w1, F1, O1, hrun, hf⟩ := evBox_sound h ht (inN_spec hd) (op0 x) h1
  unfold Oper.wp
  simp only [execOp, hop, Sem.run_bind, hrun, Result.andThen_ok, Sem.run_pure, Oper.upon]
  exact hK _ w1 F1 O1 (by rw [hdst]; exact hf)
 ·rename_i Tt ad x hg hop hdst
  have hw : Region.wanted o (yielded A a.tmps) = true := by simp [Region.wanted, hg]
  rw [if_pos hw]
  left
  obtain ⟨w1, F1, O1, hrun, hf⟩ := evStore_sound h ht (op0 ad) (op0 x) hev hl
  unfold Oper.wp
  simp only [execOp, hop, Sem.run_bind, hrun, Result.andThen_ok, Sem.run_pure, Oper.upon]
  exact hK _ w1 F1 O1 (by rw [hdst]; exact hf)
 ·rename_i args Ts d hg hop hdst
  have hw : Region.wanted o (yielded A a.tmps) = true := by simp [Region.wanted, hg]
  rw [if_pos hw]
  left
  split at hev
  rotate_left
  ·simp at hev
  rename_i hd
  split at hev
  rotate_left
  ·simp at hev
  rename_i s x Tt T2 hargs hTs
  split at hev
  rotate_left
  ·simp at hev
  rename_i hT2
  have ha : args = #[s, x] := by apply Array.toList_inj.1; simpa using hargs
  have hT : Ts = #[Tt, T2] := by apply Array.toList_inj.1; simpa using hTs
  subst ha; subst hT
  obtain ⟨v, w1, F1, O1, hrun, hf⟩ := evAppend_sound (ty := o.type) h ht (inN_spec hd) hT2 (op0 s) hev hl
  unfold Oper.wp
  have hex : (execOp a.eval o).run P w = .ok (.value v) w1 := by
   simp [execOp, hop, resolve, invoke, builtin, hrun]
  rw [hex]
  exact hK _ w1 F1 O1 (by rw [hdst]; exact hf)
 ·rename_i args Ts hg hop hdst
  have hw : Region.wanted o (yielded A a.tmps) = true := by simp [Region.wanted, hg]
  rw [if_pos hw]
  left
  split at hev
  rotate_left
  ·simp at hev
  rename_i x Tt hargs hTs
  have ha : args = #[x] := by apply Array.toList_inj.1; simpa using hargs
  have hT : Ts = #[Tt] := by apply Array.toList_inj.1; simpa using hTs
  subst ha; subst hT
  obtain ⟨w1, F1, O1, hrun, hf⟩ := evClear_sound (ty := o.type) h ht (op0 x) hev
  unfold Oper.wp
  have hex : (execOp a.eval o).run P w = .ok (.value (.tuple #[])) w1 := by
   simp [execOp, hop, resolve, invoke, builtin, hrun]
  rw [hex]
  exact hK _ w1 F1 O1 (by rw [hdst]; exact hf)
 ·simp at hev
theorem free_spec {ops : List Oper} {E : Env} {G : Gs} {d : Nat} {s : S} (h : free ops N E G d s = true) : InN N d ∧ (∀ t, d ∉ roots (E.at t)) ∧ d ∉ roots s ∧ ∀ g c, G.at g = some c → gslot ops g.1 ≠ some d := by
 simp only [free, Bool.and_eq_true, Bool.not_eq_true'] at h
 obtain ⟨⟨⟨h1, h2⟩, h3⟩, h4⟩ := h
 refine ⟨inN_spec h1, fun t ht => ?_, fun hs => ?_, fun g c hgc hd => ?_⟩
 ·have := Env.at_any (p := rooted d) h2 rfl t
  rw [rooted_iff.2 ht] at this
  simp at this
 ·rw [rooted_iff.2 hs] at h4; simp at h4
 ·simp only [noG, Bool.not_eq_true'] at h3
  have key : ∀ {G : Gs}, G.at g = some c → (G.any fun q => match gslot ops q.1.1 with | some d' => Nat.beq d d' | none => false) = true := by
   intro G
   induction G with
   | nil => intro h; simp [Gs.at] at h
   | cons q G ih =>
    intro h
    obtain ⟨g0, c0⟩ := q
    rw [Gs.at_cons] at h
    simp only [List.any_cons, Bool.or_eq_true]
    split at h
    ·rename_i hgg
     subst hgg
     left
     rw [hd]
     exact Nat.beq_refl d
    ·exact .inr (ih h)
  exact absurd ((key hgc).symm.trans h3) (by simp)
theorem quiet_G {ops : List Oper} {G G' : Gs} {o : Oper} {tys : Tys} {sup sup' : List Sup} {s : S} {l : List Prop} (hq : quiet P tys ops e G o sup = some (s, l, sup', G')) :
  Gle G G' ∧ (∀ g c, G'.at g = some c → G.at g = some c ∨ (gcond ops e G g = some c ∧ o.guard = some g ∧ G.at g = none)) := by
 unfold quiet at hq
 split at hq
 ·split at hq
  ·simp only [Option.some.injEq, Prod.mk.injEq] at hq
   obtain ⟨_, _, _, rfl⟩ := hq
   exact ⟨fun _ _ h => h, fun _ _ h => .inl h⟩
  ·simp at hq
 ·rename_i g hg
  split at hq
  ·simp at hq
  ·rename_i c hc
   split at hq
   ·simp only [Option.some.injEq, Prod.mk.injEq] at hq
    obtain ⟨_, _, _, rfl⟩ := hq
    cases hat : G.at g with
    | some c0 => exact ⟨fun _ _ h => h, fun _ _ h => .inl h⟩
    | none =>
     simp only
     refine ⟨fun g0 c0 h0 => ?_, fun g0 c0 h0 => ?_⟩
     ·rw [Gs.at_cons]
      split
      ·rename_i hgg; subst hgg; rw [hat] at h0; simp at h0
      ·exact h0
     ·rw [Gs.at_cons] at h0
      split at h0
      ·rename_i hgg
       subst hgg
       simp only [Option.some.injEq] at h0
       subst h0
       exact .inr ⟨hc, hg, hat⟩
      ·exact .inl h0
   ·simp at hq
theorem quiet_GOk {ops : List Oper} {E : Env} {G G' : Gs} {o : Oper} {tys : Tys} {sup sup' : List Sup} {s : S} {l : List Prop} (hle : ∀ t, e t = .dead ∨ e t = E.at t) (hG : GOk ops E.at G) (hq : quiet P tys ops e G o sup = some (s, l, sup', G')) {d : Nat}
  (hf : ∀ g c, G'.at g = some c → gslot ops g.1 ≠ some d) : GOk ops (E.set d s).at G' := by
 obtain ⟨h1, h2⟩ := quiet_G hq
 intro g c hgc
 have hne := hf g c hgc
 rcases h2 g c hgc with h | ⟨h, _⟩
 ·exact gcond_congr h1 (fun d' hd' => .inr (by rw [Env.at_set, if_neg]; intro hdd; exact hne (hdd ▸ hd'))) (hG g c h)
 ·refine gcond_congr h1 (fun d' hd' => ?_) h
  rcases hle d' with hz | hz
  ·exact .inl hz
  ·exact .inr (by rw [Env.at_set, if_neg]; exact hz.symm; intro hdd; exact hne (hdd ▸ hd'))
theorem newG_spec {E : Env} {G G' : Gs} {o : Oper} (hn : newG E G o = true) (h2 : ∀ g c, G'.at g = some c → G.at g = some c ∨ (o.guard = some g ∧ G.at g = none)) (h1 : Gle G G') (t : Nat) (g : Nat × Bool) (hg : hasG g (E.at t) = true) : Gf G' g = Gf G g := by
 simp only [Gf]
 cases hat : G.at g with
 | some c => rw [h1 _ _ hat]
 | none =>
  cases hat' : G'.at g with
  | none => rfl
  | some c =>
   rcases h2 g c hat' with h | ⟨h, _⟩
   ·rw [hat] at h; simp at h
   ·simp only [newG, h, hat, Bool.not_eq_true'] at hn
    have := Env.at_any (p := hasG g) hn rfl t
    rw [hg] at this
    simp at this
theorem stepO0_sound {A : Array Oper} {tys : Tys} (ht : tys.ok P = true) {o : Oper} {st st' : St} (hst : stepO0 P tys N A.toList o st = some st') (hl : ∀ p ∈ st'.obs, p) (hG : GOk A.toList st.E.at st.G) (h : Fr P N w0 F0 (Gf st.G) st.E.at a.tmps w F O) {K : Act → World → Prop} {Q : Exit → Act → World → Prop}
  (hK : ∀ v w1 F1 O1, GOk A.toList st'.E.at st'.G → Fr P N w0 F0 (Gf st'.G) st'.E.at (a.put o.dst v).tmps w1 F1 O1 → K (a.put o.dst v) w1) :
  if Region.wanted o (yielded A a.tmps) then o.wp P a w K Q ∨ (o.asks P a w ∧ LetsOut Q) else K (a.put o.dst undef) w := by
 unfold stepO0 at hst
 split at hst
 ·split at hst
  ·rename_i E1 l1 sup1 hev
   simp only [Option.some.injEq] at hst
   subst hst
   obtain ⟨O', hd⟩ := h.drop (Gf2 := Gf [])
   exact evHand_sound hd ht hev (fun p hp => hl p (List.mem_append_right _ hp)) fun v w1 F1 O1 hf => hK v w1 F1 O1 (fun g c hgc => by simp [Gs.at] at hgc) hf
  ·simp at hst
 split at hst
 ·split at hst
  ·rename_i E1 l1 hev
   simp only [Option.some.injEq] at hst
   subst hst
   obtain ⟨O', hd⟩ := h.drop (Gf2 := Gf [])
   exact effect_sound hd ht hev (fun p hp => hl p (List.mem_append_right _ hp)) fun v w1 F1 O1 hf => hK v w1 F1 O1 (fun g c hgc => by simp [Gs.at] at hgc) hf
  ·simp at hst
 ·split at hst
  ·simp at hst
  ·rename_i d hd
   split at hst
   ·rename_i s l1 sup1 G1 hq
    split at hst
    ·rename_i hc
     simp only [Bool.and_eq_true] at hc
     obtain ⟨hfr, hn⟩ := hc
     simp only [Option.some.injEq] at hst
     subst hst
     obtain ⟨f1, f2, f3, f4⟩ := free_spec hfr
     obtain ⟨g1, g2⟩ := quiet_G hq
     have hg := h.guards (Gf2 := Gf G1) fun t g hgt => newG_spec hn (fun g c hgc => (g2 g c hgc).imp id fun hh => hh.2) g1 t g hgt
     refine quiet_sound (e' := st.E.at) hg ht (fun t => .inr rfl) hG hq (fun g c hgc => by simp [Gf, hgc]) (fun p hp => hl p (List.mem_append_right _ hp)) fun v w' F' On ho hs => ?_
     have hp := hg.put f1 f2 ho hs f3
     refine hK v w' F' _ (quiet_GOk (fun t => .inr rfl) hG hq f4) (by
      rw [hd]
      have he : (st.E.set d s).at = fun t => if t = d then s else st.E.at t := by funext t; exact Env.at_set ..
      rw [he]
      exact hp)
    ·simp at hst
   ·simp at hst
theorem stepO_sound {A : Array Oper} {tys : Tys} (ht : tys.ok P = true) {o : Oper} {st st' : St} (hst : stepO P tys N A.toList o st = some st') (hl : ∀ p ∈ st'.obs, p) (hG : GOk A.toList st.E.at st.G) (h : Fr P N w0 F0 (Gf st.G) st.E.at a.tmps w F O) {K : Act → World → Prop} {Q : Exit → Act → World → Prop}
  (hK : ∀ v w1 F1 O1, GOk A.toList st'.E.at st'.G → Fr P N w0 F0 (Gf st'.G) st'.E.at (a.put o.dst v).tmps w1 F1 O1 → K (a.put o.dst v) w1) :
  if Region.wanted o (yielded A a.tmps) then o.wp P a w K Q ∨ (o.asks P a w ∧ LetsOut Q) else K (a.put o.dst undef) w := by
 obtain ⟨⟨F', O', hf⟩, hg⟩ := fzs_sound (d := o.dst) (l := st.sup) (G := st.G) (ops := A.toList) h hG
 exact stepO0_sound ht (st := ⟨(fzs o.dst st.sup st.E).1, st.G, (fzs o.dst st.sup st.E).2, st.obs⟩) hst hl hg hf hK
theorem stepO0_obs {ops : List Oper} {tys : Tys} {o : Oper} {st st' : St} (h : stepO0 P tys N ops o st = some st') : ∃ l, st'.obs = st.obs ++ l := by
 unfold stepO0 at h
 split at h
 ·split at h
  ·simp only [Option.some.injEq] at h; subst h; exact ⟨_, rfl⟩
  ·simp at h
 split at h
 ·split at h
  ·simp only [Option.some.injEq] at h; subst h; exact ⟨_, rfl⟩
  ·simp at h
 ·split at h
  ·simp at h
  ·split at h
   ·split at h
    ·simp only [Option.some.injEq] at h; subst h; exact ⟨_, rfl⟩
    ·simp at h
   ·simp at h
theorem stepO_obs {ops : List Oper} {tys : Tys} {o : Oper} {st st' : St} (h : stepO P tys N ops o st = some st') : ∃ l, st'.obs = st.obs ++ l :=
 stepO0_obs (st := ⟨(fzs o.dst st.sup st.E).1, st.G, (fzs o.dst st.sup st.E).2, st.obs⟩) h
theorem evalOps_obs {ops : List Oper} {tys : Tys} : ∀ {rest : List Oper} {st st' : St}, evalOps P tys N ops rest st = some st' → ∃ l, st'.obs = st.obs ++ l
 | [], st, st', h => by simp only [evalOps, Option.some.injEq] at h; subst h; exact ⟨[], by simp⟩
 | o :: rest, st, st', h => by
  simp only [evalOps] at h
  split at h
  ·rename_i st1 h1
   obtain ⟨l1, k1⟩ := stepO_obs h1
   obtain ⟨l2, k2⟩ := evalOps_obs h
   exact ⟨l1 ++ l2, by rw [k2, k1, List.append_assoc]⟩
  ·simp at h
theorem evalOps_sound {A : Array Oper} {tys : Tys} (ht : tys.ok P = true) {Q : Exit → Act → World → Prop} {dfs : List Deferred} : ∀ {rest : List Oper} {is : List Nat} {st st' : St} {a : Act} {w : World} {F : Nat → Prop} {O : Nat → List Nat}, is.map (A[·]?) = rest.map some → evalOps P tys N A.toList rest st = some st' → (∀ p ∈ st'.obs, p) → GOk A.toList st.E.at st.G →
  Fr P N w0 F0 (Gf st.G) st.E.at a.tmps w F O → a.defers = dfs → (∀ a' w' F' O', a'.defers = dfs → Fr P N w0 F0 (Gf st'.G) st'.E.at a'.tmps w' F' O' → Q .normal a' w') → wpOps P A Q is a w := by
 intro rest
 induction rest with
 | nil =>
  intro is st st' a w F O his hev _ _ h hdf hQ
  simp only [List.map_nil, List.map_eq_nil_iff] at his
  subst his
  simp only [evalOps, Option.some.injEq] at hev
  subst hev
  exact hQ a w F O hdf h
 | cons o rest ih =>
  intro is st st' a w F O his hev hl hG h hdf hQ
  cases is with
  | nil => simp at his
  | cons i is =>
   simp only [List.map_cons, List.cons.injEq] at his
   obtain ⟨hi, his⟩ := his
   simp only [evalOps] at hev
   split at hev
   ·rename_i st1 h1
    obtain ⟨l2, hl2⟩ := evalOps_obs hev
    simp only [wpOps, hi]
    refine stepO_sound ht h1 (fun p hp => hl p (by rw [hl2]; exact List.mem_append_left _ hp)) hG h fun v w1 F1 O1 hG1 hf => ?_
    refine ih his hev hl hG1 hf ?_ hQ
    cases o.dst <;> exact hdf
   ·simp at hev
end
end Go.Tom
