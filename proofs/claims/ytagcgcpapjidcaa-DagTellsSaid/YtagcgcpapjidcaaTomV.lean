/- Stores, whole. -/
import Derived.Test.YtagcgcpapjidcaaTomU
set_option linter.unusedVariables false
set_option linter.unusedSimpArgs false
namespace Go.Tom
open Go

def NotSl (v : Value) : Prop := ∀ a l k, v ≠ .slice a l k
def HdrEq (v v1 : Value) : Prop := v = v1 ∨ (NotSl v ∧ NotSl v1)
/-- Cells change, but no slice does. -/
def Hdr (w w1 : World) : Prop := ∀ b j v, w.cell? ⟨b, j, none⟩ = some v → ∃ v1, w1.cell? ⟨b, j, none⟩ = some v1 ∧ HdrEq v v1
def HdrEqs (cs cs1 : List Value) : Prop := cs.length = cs1.length ∧ ∀ i (h : i < cs.length) (h1 : i < cs1.length), HdrEq cs[i] cs1[i]

theorem HdrEqs.refl (cs : List Value) : HdrEqs cs cs := ⟨rfl, fun i _ _ => .inl rfl⟩

theorem At.hdr {w w1 : World} (h : Hdr w w1) {b o : Nat} {cs : List Value} (hat : At w b o cs) : ∃ cs1, At w1 b o cs1 ∧ HdrEqs cs cs1 := by
  induction cs generalizing o with
  | nil => exact ⟨[], fun j hj => absurd hj (by simp), HdrEqs.refl []⟩
  | cons c cs ih =>
    have h0 := hat 0 (by simp)
    simp only [Nat.add_zero, List.getElem_cons_zero] at h0
    obtain ⟨c1, k1, k2⟩ := h b o c h0
    have hrest : At w b (o + 1) cs := fun j hj => by
      have := hat (j + 1) (by simp; omega)
      simp only [List.getElem_cons_succ] at this
      rw [← this]; congr 2; omega
    obtain ⟨cs1, g1, g2, g3⟩ := ih hrest
    refine ⟨c1 :: cs1, fun j hj => ?_, by simp [g2], fun i hi hi1 => ?_⟩
    · cases j with
      | zero => simpa using k1
      | succ j =>
        have := g1 j (by simpa using hj)
        simp only [List.getElem_cons_succ]
        rw [← this]; congr 2; omega
    · cases i with
      | zero => exact k2
      | succ i => exact g3 i (by simpa using hi) (by simpa using hi1)

theorem Place.hdr {w w1 : World} (h : Hdr w w1) : ∀ (p : List Step) {τ τ' : Ty} {cs cs' cs1 : List Value} {l l' : Option (Nat × Nat)}, Place w p τ cs l τ' cs' l' → HdrEqs cs cs1 → ∃ cs1', Place w1 p τ cs1 l τ' cs1' l' ∧ HdrEqs cs' cs1' := by
  intro p
  induction p with
  | nil => intro τ τ' cs cs' cs1 l l' hp he; obtain ⟨rfl, rfl, rfl⟩ := hp; exact ⟨cs1, ⟨rfl, rfl, rfl⟩, he⟩
  | cons s p ih =>
    intro τ τ' cs cs' cs1 l l' hp he
    cases s with
    | idx i => cases τ with
      | slice e =>
        obtain ⟨b, o, len, cap, c1, g1, g2, g3, g4, g5, hp⟩ := hp
        subst g1
        obtain ⟨hl, hk⟩ := he
        match cs1, hl with
        | [c], _ =>
          have := hk 0 (by simp) (by simp)
          simp only [List.getElem_cons_zero] at this
          rcases this with this | ⟨hn, _⟩
          · subst this
            obtain ⟨c2, k1, k2⟩ := g5.hdr h
            obtain ⟨c3, q1, q2⟩ := ih hp k2
            exact ⟨c3, ⟨b, o, len, cap, c2, rfl, g2, g3, by rw [← k2.1]; exact g4, k1, q1⟩, q2⟩
          · exact absurd rfl (hn _ _ _)
      | _ => exact hp.elim
    | fld f => cases τ with
      | st a1 =>
        obtain ⟨a2, ha, hp⟩ := hp
        obtain ⟨hl, hk⟩ := he
        obtain ⟨c3, q1, q2⟩ := ih hp (cs1 := (cs1.drop (fldOff a1 f)).take a2.sz) ⟨by simp [hl], fun i hi hi1 => by
          simp only [List.getElem_take, List.getElem_drop]
          simp only [List.length_take, List.length_drop] at hi hi1
          exact hk _ (by omega) (by omega)⟩
        exact ⟨c3, ⟨a2, ha, q1⟩, q2⟩
      | _ => exact hp.elim

section
variable {P : Program} {N : Nat} {w0 w : World} {F0 F : Nat → Prop} {G : Nat × Bool → Bool} {e : Nat → S} {a : Act} {T : Array Value} {O Od : Nat → List Nat}

theorem Rep.flat_cells : ∀ {τ : Ty} {n : Nat} {x : τ.den} {cs : List Value} {Ox : List Nat}, τ.flat = true → Rep P τ n w F x cs Ox → ∀ c ∈ cs, NotSl c := by
  intro τ
  induction τ with
  | prod b1 b2 ih1 ih2 =>
    intro n x cs Ox hf h c hc
    simp only [Ty.flat, Bool.and_eq_true] at hf
    obtain ⟨c1, c2, O1, O2, rfl, rfl, _, _, r1, r2⟩ := h
    rcases List.mem_append.1 hc with hc | hc
    · exact ih1 hf.1 r1 c hc
    · exact ih2 hf.2 r2 c hc
  | st b ih => intro n x cs Ox hf h; exact ih hf h
  | int k => intro n x cs Ox hf h c hc; rw [h.1, List.mem_singleton] at hc; subst hc; intro _ _ _ h; simp at h
  | bool => intro n x cs Ox hf h c hc; rw [h.1, List.mem_singleton] at hc; subst hc; intro _ _ _ h; simp at h
  | str => intro n x cs Ox hf h c hc; rw [h.1, List.mem_singleton] at hc; subst hc; intro _ _ _ h; simp at h
  | slice e1 _ => intro n x cs Ox hf; simp [Ty.flat] at hf
  | cptr e1 _ => intro n x cs Ox hf; simp [Ty.flat] at hf
  | fn e1 r _ _ => intro n x cs Ox hf; simp [Ty.flat] at hf

theorem Rep.not_undef {τ : Ty} {n : Nat} {x : τ.den} {v : Value} {cs : List Value} {Ox : List Nat} (hv : VS τ v cs) (h : Rep P τ n w F x cs Ox) : v ≠ undef := by
  have ho := h.oneCell
  intro hc
  subst hc
  cases τ with
  | st b => have h' : undef = .agg cs.toArray := hv; simp [undef] at h'
  | _ =>
    have h' : cs = [undef] := hv
    have := ho undef (by rw [h']; exact List.mem_singleton.2 rfl)
    simp [undef, Value.oneCell'] at this

theorem slot_lt (hN : T.size = N) {V : Nat} (h : T.getD V undef ≠ undef) : V < N := by
  rcases Nat.lt_or_ge V N with hlt | hge
  · exact hlt
  · exfalso
    apply h
    simp only [Array.getD]
    rw [dif_neg (by omega)]

/-- A place in an owned root is a hole that may be filled. -/
theorem Rep.wand {σ : Ty} {m : Nat} {x : σ.den} {p : List Step} {l : Option (Nat × Nat)} {cs0 : List Value} {O1 : List Nat} (hr : Rep P σ m w F x cs0 O1) (hnd : O1.Nodup) (hle : idxs p ≤ m) {τ' : Ty} {cs' : List Value} {b o : Nat}
    (hp : Place w p σ cs0 l τ' cs' (some (b, o))) {t' : TV} (hg : get p σ x = some t') (hl1 : ∀ b o, l = some (b, o) → b ∉ O1) (hl2 : ∀ b o, l = some (b, o) → At w b o cs0 ∧ OwnBlk w b 0) :
    ∃ Or Oc, Wand P w F m σ x p l cs0 Or ∧ (∀ c ∈ Or, c ∈ O1) ∧ Or.Nodup ∧ Rep P t'.1 (m - idxs p) w F t'.2 cs' Oc := by
  have hty := Place.ty p hp hg
  subst hty
  obtain ⟨Oc, Orr, hperm, hrc, hat, hlb, hst, hw⟩ := focus p hr hnd hle hp hg hl1 fun b o h => (hl2 b o h).1
  have hndp := hperm.nodup_iff.1 hnd
  have hmem : ∀ c ∈ Orr, c ∈ O1 := fun c hc => hperm.mem_iff.2 (List.mem_append_right _ hc)
  refine ⟨Orr, Oc, ⟨t', b, o, cs', hg, hp, hle, ?_, hrc.length, hat b o rfl, ?_, fun w1 hs1 => hst w1 hs1, fun w1 F1 y cs1 Ox xn hput he hch hrr => hw w1 F1 y cs1 Ox xn hput he hch hrr⟩, hmem, (List.nodup_append.1 hndp).2.1, hrc⟩
  · rcases hlb b o rfl with hb | ⟨_, hb⟩
    · exact .inl hb
    · exact .inr hb
  · rcases hlb b o rfl with hb | ⟨_, o', hb⟩
    · exact hr.owned_blk b (hmem b hb)
    · exact (hl2 b o' hb).2

/-- Addresses that are tied to V stay, if only flat cells were written. -/
theorem flat_keep {E1 : Nat → S} {V : Nat} {w1 : World} {F1 : Nat → Prop} {sn : S} {e1 : Nat → S} (he1 : e1 V = sn) (hh : Hdr w w1)
    (hroot : ∀ τ cs l, RootAt w (E1 V) (T.getD V undef) τ cs l → ∃ csn, RootAt w1 sn (T.getD V undef) τ csn l ∧ HdrEqs cs csn) (hsol : (∃ m σ x, E1 V = .v m σ x) ∨ ∃ m σ x, E1 V = .box m σ x) {v : Value} :
    ∀ {s : S} {Os : List Nat}, SRep P G w F T E1 v s Os → roots s = [V] → isBor s = false → (∀ f c, s ≠ .clo f c) → SRep P G w1 F1 T e1 v s Os := by
  intro s
  induction s with
  | ref W q =>
    intro Os h hr _ _
    simp only [roots, List.cons.injEq, and_true] at hr
    subst hr
    obtain ⟨h0, b, o, τ', cs', k1, τ, cs, l, k2, k3⟩ := h
    obtain ⟨csn, g1, g2⟩ := hroot τ cs l k2
    obtain ⟨cs1', q1, q2⟩ := Place.hdr hh q k3 g2
    exact ⟨h0, b, o, τ', cs1', k1, τ, csn, l, by rw [he1]; exact g1, q1⟩
  | ext W i =>
    intro Os h hr _ _
    simp only [roots, List.cons.injEq, and_true] at hr
    subst hr
    obtain ⟨_, rs, vs, k1, _⟩ := h
    rcases hsol with ⟨m, σ, x, hs⟩ | ⟨m, σ, x, hs⟩ <;> rw [hs] at k1 <;> simp at k1
  | hrf W l =>
    intro Os h hr _ _
    simp only [roots, List.cons.injEq, and_true] at hr
    subst hr
    refine ⟨h.1, fun hl => ?_⟩
    obtain ⟨bx, n, σ, x, p, b, o, τ', cs, cs', l', k1, _⟩ := h.2 hl
    rcases hsol with ⟨m, σ, x, hs⟩ | ⟨m, σ, x, hs⟩ <;> rw [hs] at k1 <;> simp at k1
  | cnd g s ih =>
    intro Os h hr hb hc
    refine ⟨fun hg => ?_, h.2⟩
    by_cases hcl : ∃ f c, s = .clo f c
    · obtain ⟨f, c, rfl⟩ := hcl
      exact h.1 hg
    · exact ih (h.1 hg) (by simpa [roots] using hr) (by simpa [isBor] using hb) fun f c hfc => hcl ⟨f, c, hfc⟩
  | bor W q => intro Os _ _ hb _; simp [isBor] at hb
  | bsl W q l h => intro Os _ _ hb _; simp [isBor] at hb
  | clo f c => intro Os _ _ _ hc; exact absurd rfl (hc f c)
  | dead => intro Os h hr _ _; simp [roots] at hr
  | v _ _ _ => intro Os h hr _ _; simp [roots] at hr
  | box _ _ _ => intro Os h hr _ _; simp [roots] at hr
  | tup _ => intro Os h hr _ _; simp [roots] at hr
  | nil => intro Os h hr _ _; simp [roots] at hr
  | hol _ _ _ _ _ => intro Os h hr _ _; simp [roots] at hr

theorem roots_one : ∀ {s : S} {V : Nat}, V ∈ roots s → roots s = [V] ∨ (∃ f c, s = .clo f c) ∨ ∃ g s', s = .cnd g s'
  | .ref _ _, V, h => by simp only [roots, List.mem_singleton] at h; subst h; exact .inl rfl
  | .bor _ _, V, h => by simp only [roots, List.mem_singleton] at h; subst h; exact .inl rfl
  | .ext _ _, V, h => by simp only [roots, List.mem_singleton] at h; subst h; exact .inl rfl
  | .bsl _ _ _ _, V, h => by simp only [roots, List.mem_singleton] at h; subst h; exact .inl rfl
  | .hrf _ _, V, h => by simp only [roots, List.mem_singleton] at h; subst h; exact .inl rfl
  | .clo f c, V, _ => .inr (.inl ⟨f, c, rfl⟩)
  | .cnd g s, V, _ => .inr (.inr ⟨g, s, rfl⟩)
  | .dead, V, h => by simp [roots] at h
  | .v _ _ _, V, h => by simp [roots] at h
  | .box _ _ _, V, h => by simp [roots] at h
  | .tup _, V, h => by simp [roots] at h
  | .nil, V, h => by simp [roots] at h
  | .hol _ _ _ _ _, V, h => by simp [roots] at h

/-- The same for every S that is tied to V. -/
theorem flat_keep' {E1 : Nat → S} {V : Nat} {w1 : World} {F1 : Nat → Prop} {sn : S} {e1 : Nat → S} (he1 : e1 V = sn) (hh : Hdr w w1)
    (hroot : ∀ τ cs l, RootAt w (E1 V) (T.getD V undef) τ cs l → ∃ csn, RootAt w1 sn (T.getD V undef) τ csn l ∧ HdrEqs cs csn) (hsol : (∃ m σ x, E1 V = .v m σ x) ∨ ∃ m σ x, E1 V = .box m σ x) {v : Value} :
    ∀ {s : S} {Os : List Nat}, SRep P G w F T E1 v s Os → V ∈ roots s → isBor s = false → SRep P G w1 F1 T e1 v s Os := by
  intro s
  induction s with
  | clo f c => intro Os h _ _; exact h
  | cnd g s ih => intro Os h hr hb; exact ⟨fun hg => ih (h.1 hg) (by simpa [roots] using hr) (by simpa [isBor] using hb), h.2⟩
  | ref W q =>
    intro Os h hr hb
    exact flat_keep he1 hh hroot hsol h (by simp only [roots, List.mem_singleton] at hr; subst hr; rfl) hb (by simp)
  | ext W i =>
    intro Os h hr hb
    exact flat_keep he1 hh hroot hsol h (by simp only [roots, List.mem_singleton] at hr; subst hr; rfl) hb (by simp)
  | hrf W l =>
    intro Os h hr hb
    exact flat_keep he1 hh hroot hsol h (by simp only [roots, List.mem_singleton] at hr; subst hr; rfl) hb (by simp)
  | bor W q => intro Os _ _ hb; simp [isBor] at hb
  | bsl W q l h => intro Os _ _ hb; simp [isBor] at hb
  | dead => intro Os h hr _; simp [roots] at hr
  | v _ _ _ => intro Os h hr _; simp [roots] at hr
  | box _ _ _ => intro Os h hr _; simp [roots] at hr
  | tup _ => intro Os h hr _; simp [roots] at hr
  | nil => intro Os h hr _; simp [roots] at hr
  | hol _ _ _ _ _ => intro Os h hr _; simp [roots] at hr

/-- Behind a write of flat cells: what is tied to V, but for copies, is as it was. -/
theorem Fr.unkill {E1 : Env} (h : Fr P N w0 F0 G E1.at T w F O) {V : Nat} {sn : S} {w1 : World} {F1 : Nat → Prop} {O1 : Nat → List Nat} (h1 : Fr P N w0 F0 G ((E1.kill V).set V sn).at T w1 F1 O1) (hh : Hdr w w1)
    (hroot : ∀ τ cs l, RootAt w (E1.at V) (T.getD V undef) τ cs l → ∃ csn, RootAt w1 sn (T.getD V undef) τ csn l ∧ HdrEqs cs csn) (hsol : (∃ m σ x, E1.at V = .v m σ x) ∨ ∃ m σ x, E1.at V = .box m σ x) (hsn : roots sn = []) :
    ∃ O2, Fr P N w0 F0 G ((E1.killBor V).set V sn).at T w1 F1 O2 := by
  have hVr : roots (E1.at V) = [] := by rcases hsol with ⟨m, σ, x, hs⟩ | ⟨m, σ, x, hs⟩ <;> rw [hs] <;> rfl
  refine ⟨fun u => if u ≠ V ∧ rooted V (E1.at u) = true then [] else O1 u, h1.less (fun u => ?_) fun u => ?_⟩
  · have hu1 := h1.rep u
    rw [Env.at_set] at hu1 ⊢
    by_cases hu : u = V
    · simp only [hu, if_true, ne_eq, not_true_eq_false, false_and, if_false] at hu1 ⊢
      exact hu1.slot fun W hW => by rw [hsn] at hW; cases hW
    · simp only [hu, if_false] at hu1 ⊢
      rw [Env.at_kill] at hu1
      rw [Env.at_killBor]
      by_cases hr : rooted V (E1.at u) = true
      · simp only [hr, ne_eq, hu, not_false_eq_true, and_self, if_true, Bool.and_true]
        split
        · rfl
        · rename_i hb
          have hO : O u = [] := (h.rep u).rooted_nil (rooted_iff.1 hr)
          have hrep := h.rep u
          rw [hO] at hrep
          exact flat_keep' (e1 := ((E1.killBor V).set V sn).at) (by rw [Env.at_set, if_pos rfl]) hh hroot hsol hrep (rooted_iff.1 hr) (by simpa using hb)
      · simp only [hr, Bool.false_eq_true, and_false, if_false, Bool.and_false] at hu1 ⊢
        refine hu1.slot fun W hW => ⟨rfl, fun hs => ?_⟩
        rw [Env.at_set] at hs ⊢
        rw [Env.at_set]
        by_cases hWV : W = V
        · simp only [hWV, if_true]
        · simp only [hWV, if_false] at hs ⊢
          rw [Env.at_kill] at hs ⊢
          rw [Env.at_killBor]
          split at hs
          · simp [solid] at hs
          · rename_i hrW
            simp [hrW]
  · by_cases hc : u ≠ V ∧ rooted V (E1.at u) = true
    · rw [if_pos hc]; exact ⟨List.nodup_nil, fun b hb => by cases hb⟩
    · rw [if_neg hc]; exact ⟨h1.nodup u, fun b hb => hb⟩
end
end Go.Tom
