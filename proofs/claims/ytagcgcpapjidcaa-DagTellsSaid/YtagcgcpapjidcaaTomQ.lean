/- A value is taken out of the frame; a value is laid into a slot. -/
import Derived.Test.YtagcgcpapjidcaaTomO
set_option linter.unusedVariables false
set_option linter.unusedSimpArgs false
namespace Go.Tom
open Go

theorem place_some {w : World} : ∀ (p : List Step) {τ τ' : Ty} {cs cs' : List Value} {l l' : Option (Nat × Nat)}, Place w p τ cs l τ' cs' l' → (0 < idxs p ∨ ∃ q, l = some q) → ∃ b o, l' = some (b, o) := by
  intro p
  induction p with
  | nil =>
    intro τ τ' cs cs' l l' h hh
    obtain ⟨rfl, rfl, rfl⟩ := h
    rcases hh with hh | ⟨⟨b, o⟩, hh⟩
    · simp [idxs] at hh
    · exact ⟨b, o, hh⟩
  | cons s p ih =>
    intro τ τ' cs cs' l l' h hh
    cases s with
    | idx i => cases τ with
      | slice e => obtain ⟨b, o, len, cap, c1, _, _, _, _, _, hp⟩ := h; exact ih hp (.inr ⟨_, rfl⟩)
      | _ => exact h.elim
    | fld f => cases τ with
      | st a =>
        obtain ⟨a1, _, hp⟩ := h
        refine ih hp ?_
        rcases hh with hh | ⟨q, rfl⟩
        · exact .inl (by simpa [idxs] using hh)
        · exact .inr ⟨_, rfl⟩
      | _ => exact h.elim

theorem pathEq_eq : ∀ {p q : List Step} {l : List Prop}, pathEq p q = some l → (∀ x ∈ l, x) → p = q
  | [], [], _, _, _ => rfl
  | [], _ :: _, _, h, _ => by simp [pathEq] at h
  | .fld i :: p, [], _, h, _ => by simp [pathEq] at h
  | .idx i :: p, [], _, h, _ => by simp [pathEq] at h
  | .fld i :: p, .fld j :: q, l, h, hl => by
    simp only [pathEq] at h
    split at h
    · rename_i hb
      rw [Nat.eq_of_beq_eq_true hb, pathEq_eq h hl]
    · simp at h
  | .idx i :: p, .idx j :: q, l, h, hl => by
    simp only [pathEq, Option.map_eq_some_iff] at h
    obtain ⟨l', h, rfl⟩ := h
    have := hl _ (List.mem_cons_self ..)
    rw [this, pathEq_eq h fun x hx => hl x (List.mem_cons_of_mem _ hx)]
  | .fld i :: p, .idx j :: q, _, h, _ => by simp [pathEq] at h
  | .idx i :: p, .fld j :: q, _, h, _ => by simp [pathEq] at h

theorem flatten_sub {α : Type} {l l' : List (List α)} (h : l.Sublist l') : l.flatten.Sublist l'.flatten := by
  induction h with
  | slnil => exact List.Sublist.refl _
  | cons a _ ih => rw [List.flatten_cons]; exact ih.trans (List.sublist_append_right _ _)
  | cons_cons a _ ih => rw [List.flatten_cons, List.flatten_cons]; exact ih.append_left a

section
variable {P : Program} {N : Nat} {w0 w : World} {F0 F : Nat → Prop} {G : Nat × Bool → Bool} {e : Nat → S} {a : Act} {T : Array Value} {O : Nat → List Nat}

/-- A hole is made at p in slot V. -/
theorem Fr.hole (h : Fr P N w0 F0 G e T w F O) {V : Nat} {p : List Step} {bx : Bool} {n : Nat} {σ : Ty} {x : σ.den} {On : List Nat} (hs : SRep P G w F T e (T.getD V undef) (.hol bx n σ x p) On)
    (hV : e V = if bx then .box n σ x else .v n σ x) (ho : On.Nodup ∧ ∀ b ∈ On, b ∈ O V) :
    Fr P N w0 F0 G (fun t => if t = V then .hol bx n σ x p else holeS bx V p (e t)) T w F (fun t => if t = V then On else O t) := by
  have hroot : ∀ {τ cs l}, RootAt w (e V) (T.getD V undef) τ cs l → σ = τ ∧ RootHol w bx (T.getD V undef) τ cs l := by
    intro τ cs l hr
    rw [hV] at hr
    cases bx
    · obtain ⟨rfl, h1, h2⟩ := hr; exact ⟨rfl, h1, h2⟩
    · obtain ⟨rfl, b, el, h1, h2, h3⟩ := hr; exact ⟨rfl, b, el, h1, h2, h3⟩
  refine h.less (fun t => ?_) fun t => ?_
  · by_cases ht : t = V
    · subst ht
      simp only [if_true]
      exact hs.slot fun W hW => by simp [roots] at hW
    · simp only [ht, if_false]
      have hrt := h.rep t
      have other : ∀ {s : S}, e t = s → rooted V s = false → SRep P G w F T (fun t => if t = V then .hol bx n σ x p else holeS bx V p (e t)) (T.getD t undef) s (O t) := by
        intro s hs hr
        rw [hs] at hrt
        refine hrt.slot fun W hW => ⟨rfl, fun hsol => ?_⟩
        have hne : W ≠ V := fun hc => by rw [← hc, rooted_iff.2 hW] at hr; simp at hr
        simp only [hne, if_false]
        cases hW' : e W <;> rw [hW'] at hsol <;> first | (simp [solid] at hsol; done) | simp [holeS, rooted, roots]
      have dead : rooted V (e t) = true → O t = [] := fun hr => hrt.rooted_nil (rooted_iff.1 hr)
      cases het : e t with
      | ref W q =>
        simp only [holeS]
        by_cases hVW : Nat.beq V W = true
        · simp only [hVW, if_true]
          obtain rfl := Nat.eq_of_beq_eq_true hVW
          have hO : O t = [] := dead (by rw [het]; simp [rooted, roots, Nat.beq_refl])
          cases hpe : pathEq q p with
          | none => exact hO
          | some l =>
            refine ⟨hO, fun hl => ?_⟩
            have hqp := pathEq_eq hpe (AllP_iff.1 hl)
            subst hqp
            rw [het] at hrt
            obtain ⟨_, b, o, τ', cs', h1, τ, cs, l0, hr, hp⟩ := hrt
            obtain ⟨rfl, hh⟩ := hroot hr
            exact ⟨bx, n, σ, x, q, b, o, τ', cs, cs', l0, by simp, h1, hh, hp⟩
        · simp only [hVW, Bool.false_eq_true, if_false]
          refine other het ?_
          simp only [rooted, roots, List.any_cons, List.any_nil, Bool.or_false]
          cases hb : Nat.beq V W
          · rfl
          · exact absurd hb hVW
      | bor W q =>
        simp only [holeS]
        by_cases hVW : Nat.beq V W = true
        · obtain rfl := Nat.eq_of_beq_eq_true hVW
          have hO : O t = [] := dead (by rw [het]; simp [rooted, roots, Nat.beq_refl])
          split
          · rename_i hk
            simp only [Nat.beq_refl, Bool.not_true, Bool.or_false] at hk
            unfold keepBor at hk
            split at hk
            · refine ⟨hO, .inl ⟨by simp [passive], rfl, ?_⟩⟩
              rw [het] at hrt
              obtain ⟨_, ⟨k1, _, _⟩ | ⟨τ', cs', l, k1, τ1, cs, l0, hr, hp⟩⟩ := hrt
              · rw [hV] at k1; simp [passive] at k1
              · obtain ⟨rfl, hh, _⟩ := hroot hr
                obtain ⟨rfl, rfl, _⟩ := hp
                exact k1.inj' hh
            · simp at hk
          · exact hO
        · rw [Bool.not_eq_true] at hVW
          simp only [hVW, Bool.not_false, Bool.or_true, if_true]
          exact other het (by simp [rooted, roots, hVW])
      | _ =>
        simp only [holeS]
        split
        · rename_i hr
          exact dead (by rw [het]; exact hr)
        · rename_i hr
          exact other het (by simpa using hr)
  · by_cases ht : t = V
    · subst ht; simpa using ho
    · simp only [ht, if_false]; exact ⟨h.nodup t, fun b hb => hb⟩

/-- What has been taken: a value that no slot holds any more. -/
def Taken (P : Program) (N : Nat) (w0 : World) (F0 : Nat → Prop) (G : Nat × Bool → Bool) (T : Array Value) (w : World) (F : Nat → Prop) (O : Nat → List Nat) (E' : Env) (n : Nat) (t : TV) (v : Value) : Prop :=
  ∃ O' Ot cs, Fr P N w0 F0 G E'.at T w F O' ∧ VS t.1 v cs ∧ Rep P t.1 n w F t.2 cs Ot ∧ Ot.Nodup ∧ (∀ b ∈ Ot, w0.heap.size ≤ b ∧ b < w.heap.size ∧ ¬ F b ∧ ∀ u, b ∉ O' u) ∧ (∀ b ∈ Ot, ∃ u, b ∈ O u) ∧ ∀ u, ∀ b ∈ O' u, b ∈ O u

theorem Taken.free {E : Env} (h : Fr P N w0 F0 G E.at T w F O) {n : Nat} {t : TV} {v : Value} {cs : List Value} (hv : VS t.1 v cs) (hr : Rep P t.1 n w F t.2 cs []) : Taken P N w0 F0 G T w F O E n t v :=
  ⟨O, [], cs, h, hv, hr, List.nodup_nil, (fun b hb => by cases hb), (fun b hb => by cases hb), fun u b hb => hb⟩

/-- A slot is emptied. -/
theorem Taken.all {E : Env} (h : Fr P N w0 F0 G E.at T w F O) {V : Nat} {n : Nat} {t : TV} {v : Value} {cs : List Value} {Ot : List Nat} (hv : VS t.1 v cs) (hr : Rep P t.1 n w F t.2 cs Ot) (hO : Ot.Nodup ∧ ∀ b ∈ Ot, b ∈ O V) :
    Taken P N w0 F0 G T w F O ((E.kill V).set V .dead) n t v := by
  have hf := h.turn (V := V) (s := .dead) (On := []) rfl rfl ⟨List.nodup_nil, fun b hb => by cases hb⟩
  rw [← Env.kill_set] at hf
  refine ⟨_, Ot, cs, hf, hv, hr, hO.1, fun b hb => ?_, fun b hb => ⟨V, hO.2 b hb⟩, fun u b hb => by
    by_cases hu : u = V
    · simp [hu] at hb
    · simpa only [hu, if_false] using hb⟩
  obtain ⟨h1, h2, h3⟩ := h.own V b (hO.2 b hb)
  refine ⟨h1, h2, h3, fun u => ?_⟩
  by_cases hu : u = V
  · simp [hu]
  · simp only [hu, if_false]
    exact h.apart V u (Ne.symm hu) b (hO.2 b hb)

theorem TupRep.take {rs : List (Option Res)} {vs : List Value} {Ov : List Nat} (h : TupRep P w F rs vs Ov) : ∀ {i : Nat} {r : Res}, rs[i]? = some (some r) → ∃ v cs Oi Or, vs[i]? = some v ∧ VS r.τ v cs ∧ Rep P r.τ r.n w F r.x cs Oi ∧ Ov.Perm (Oi ++ Or) ∧ TupRep P w F (rs.set i none) vs Or := by
  induction rs generalizing vs Ov with
  | nil => intro i r hi; simp at hi
  | cons q rs ih =>
    intro i r hi
    cases q with
    | none =>
      obtain ⟨v, vs', rfl, h⟩ := h
      cases i with
      | zero => simp at hi
      | succ i =>
        obtain ⟨v', cs', Oi, Or, k1, k2, k3, k4, k5⟩ := ih h (by simpa using hi)
        exact ⟨v', cs', Oi, Or, k1, k2, k3, k4, v, vs', rfl, k5⟩
    | some q =>
      obtain ⟨v, vs', cs, O1, O2, rfl, rfl, h1, h2, h3⟩ := h
      cases i with
      | zero =>
        simp only [List.getElem?_cons_zero, Option.some.injEq] at hi
        subst hi
        exact ⟨v, cs, O1, O2, rfl, h1, h2, List.Perm.refl _, v, vs', rfl, h3⟩
      | succ i =>
        obtain ⟨v', cs', Oi, Or, k1, k2, k3, k4, k5⟩ := ih h3 (by simpa using hi)
        refine ⟨v', cs', Oi, O1 ++ Or, k1, k2, k3, ?_, v, vs', cs, O1, Or, rfl, rfl, h1, h2, k5⟩
        refine (k4.append_left O1).trans ?_
        rw [← List.append_assoc, ← List.append_assoc]
        exact List.perm_append_comm.append_right Or

theorem take_sound {E : Env} (h : Fr P N w0 F0 G E.at a.tmps w F O) {r : RS} {v : Value} (hr : RSOk P G w F E.at a O r v) {Tx : Option Ty} {n : Nat} {t : TV} {E' : Env} (hev : takeV E Tx r = some (n, t, E')) : Taken P N w0 F0 G a.tmps w F O E' n t v := by
  obtain ⟨⟨Or, hrep, hOr⟩, hrt, hslot⟩ := hr
  unfold takeV at hev
  split at hev
  · -- nil
    split at hev
    · simp only [Option.some.injEq, Prod.mk.injEq] at hev
      obtain ⟨rfl, rfl, rfl⟩ := hev
      obtain ⟨_, rfl⟩ := hrep
      exact Taken.free h (cs := [.slice none 0 0]) rfl ⟨none, 0, [], [], rfl, Nat.le_refl _, rfl, rfl, fun i hi => absurd hi (by simp), .inr (.inl ⟨by omega, rfl, rfl⟩)⟩
    · simp at hev
  · -- a constant
    split at hev
    · rename_i hf
      simp only [Option.some.injEq, Prod.mk.injEq] at hev
      obtain ⟨rfl, rfl, rfl⟩ := hev
      obtain ⟨cs, h1, h2⟩ := hrep
      exact Taken.free h h1 ((h2.flat hf).2 _ _ _)
    · simp at hev
  · -- a slot's own value
    rename_i V n0 τ x rr
    obtain ⟨hV, hv⟩ := hslot V rfl
    have hVr := h.rep V
    rw [hV, ← hv] at hVr
    obtain ⟨cs, h1, h2⟩ := hVr
    split at hev
    · rename_i hf
      simp only [Option.some.injEq, Prod.mk.injEq] at hev
      obtain ⟨rfl, rfl, rfl⟩ := hev
      exact Taken.free h h1 ((h2.flat hf).2 _ _ _)
    · split at hev
      · rename_i hn
        simp only [Option.some.injEq, Prod.mk.injEq] at hev
        obtain ⟨rfl, rfl, rfl⟩ := hev
        have hn' := Nat.eq_of_beq_eq_true hn
        subst hn'
        have hz := h2.zero_nil
        rw [hz] at h2
        exact Taken.free h h1 h2
      · simp only [Option.some.injEq, Prod.mk.injEq] at hev
        obtain ⟨rfl, rfl, rfl⟩ := hev
        exact Taken.all h h1 h2 ⟨h.nodup V, fun b hb => hb⟩
  · -- a copy of a slot
    rename_i to V n0 τ x
    simp only [roots, List.map_cons, List.map_nil, List.cons.injEq, and_true] at hrt
    simp only [Option.some.injEq, Prod.mk.injEq] at hev
    obtain ⟨rfl, rfl, rfl⟩ := hev
    obtain ⟨_, ⟨hrs, _, _⟩ | ⟨τ', cs', l, hv, τ1, cs, l0, hroot, hp⟩⟩ := hrep
    · rw [← hrt] at hrs; simp [passive] at hrs
    · obtain ⟨rfl, rfl, rfl⟩ := hp
      have hVr := h.rep V
      rw [← hrt] at hroot hVr
      obtain ⟨rfl, hv2, rfl⟩ := hroot
      obtain ⟨cs2, k1, k2⟩ := hVr
      obtain rfl := hv2.inj k1
      exact Taken.all h hv k2 ⟨h.nodup V, fun b hb => hb⟩
  · -- out of a value: a hole
    rename_i to V s p n0 τ x
    simp only [roots, List.map_cons, List.map_nil, List.cons.injEq, and_true] at hrt
    split at hev
    · rename_i t' hg
      split at hev
      · rename_i hc
        simp only [Option.some.injEq, Prod.mk.injEq] at hev
        obtain ⟨rfl, rfl, rfl⟩ := hev
        simp only [Bool.and_eq_true] at hc
        have hle := Nat.le_of_ble_eq_true hc.1
        have hpos := Nat.le_of_ble_eq_true hc.2
        obtain ⟨_, ⟨hrs, _, _⟩ | ⟨τ', cs', l, hv, τ1, cs, l0, hroot, hp⟩⟩ := hrep
        · rw [← hrt] at hrs; simp [passive] at hrs
        · have hVr := h.rep V
          have hroot' := hroot
          rw [← hrt] at hroot' hVr
          obtain ⟨rfl, hv2, rfl⟩ := hroot'
          obtain ⟨cs2, k1, k2⟩ := hVr
          obtain rfl := hv2.inj k1
          have hty := Place.ty _ hp hg
          subst hty
          obtain ⟨Oc, Orr, hperm, hrc, hat, hlb, hst, hw⟩ := focus (s :: p) k2 (h.nodup V) hle hp hg (by simp) (by simp)
          obtain ⟨b, o, rfl⟩ := place_some _ hp (.inl (by omega))
          have hnd := hperm.nodup_iff.1 (h.nodup V)
          have hmem : ∀ c ∈ Orr, c ∈ O V := fun c hc => hperm.mem_iff.2 (List.mem_append_right _ hc)
          have hbOr : b ∈ Orr := by
            rcases hlb b o rfl with hb | ⟨hz, _⟩
            · exact hb
            · omega
          have hhol : SRep P G w F a.tmps E.at (a.tmps.getD V undef) (.hol false n0 τ x (s :: p)) Orr := by
            refine ⟨cs, hv2, k2.length, by omega, t', b, o, cs', hg, hp, hle, .inl hbOr, hrc.length, hat b o rfl, k2.owned_blk b (hmem b hbOr), fun w1 hs1 => hst w1 hs1, fun w1 F1 y cs1 O1 xn hput he hch hrr => ?_⟩
            exact hw w1 F1 y cs1 O1 xn hput he hch hrr
          have hf := h.hole (p := s :: p) (bx := false) hhol (by simpa using hrt.symm) ⟨(List.nodup_append.1 hnd).2.1, hmem⟩
          have hE : ((E.hole false V (s :: p)).set V (.hol false n0 τ x (s :: p))).at = fun t => if t = V then .hol false n0 τ x (s :: p) else holeS false V (s :: p) (E.at t) := by
            funext u; rw [Env.at_set]; split
            · rfl
            · exact Env.at_hole E _ V u _
          rw [← hE] at hf
          refine ⟨_, Oc, cs', hf, hv, hrc, (List.nodup_append.1 hnd).1, fun c hc => ?_, fun c hc => ⟨V, hperm.mem_iff.2 (List.mem_append_left _ hc)⟩, fun u c hc => by
            by_cases hu : u = V
            · subst hu; simp only [if_true] at hc; exact hmem c hc
            · simpa only [hu, if_false] using hc⟩
          have hcV : c ∈ O V := hperm.mem_iff.2 (List.mem_append_left _ hc)
          obtain ⟨g1, g2, g3⟩ := h.own V c hcV
          refine ⟨g1, g2, g3, fun u => ?_⟩
          by_cases hu : u = V
          · simp only [hu, if_true]
            exact fun hc' => (List.nodup_append.1 hnd).2.2 c hc c hc' rfl
          · simp only [hu, if_false]
            exact h.apart V u (Ne.symm hu) c hcV
      · simp at hev
    · simp at hev
  · -- out of a variable: a hole
    rename_i to V s p n0 τ x
    simp only [roots, List.map_cons, List.map_nil, List.cons.injEq, and_true] at hrt
    split at hev
    · rename_i t' hg
      split at hev
      · rename_i hc
        simp only [Option.some.injEq, Prod.mk.injEq] at hev
        obtain ⟨rfl, rfl, rfl⟩ := hev
        have hle := Nat.le_of_ble_eq_true hc
        obtain ⟨_, ⟨hrs, _, _⟩ | ⟨τ', cs', l, hv, τ1, cs, l0, hroot, hp⟩⟩ := hrep
        · rw [← hrt] at hrs; simp [passive] at hrs
        · have hVr := h.rep V
          have hroot' := hroot
          rw [← hrt] at hroot' hVr
          obtain ⟨rfl, b0, el, hv2, hb0, rfl⟩ := hroot'
          obtain ⟨b1, cs2, el1, O1, k1, k1', k2, kO⟩ := hVr
          rw [hv2] at k1
          simp only [Value.pointer.injEq, Option.some.injEq, Addr.mk.injEq, and_true] at k1
          subst k1
          rw [hb0] at k1'
          simp only [Option.some.injEq, Obj.cells.injEq, and_true] at k1'
          have hcc : cs = cs2 := by simpa using congrArg Array.toList k1'.1
          subst hcc
          have hty := Place.ty _ hp hg
          subst hty
          have hndV := h.nodup V
          rw [kO, List.nodup_cons] at hndV
          obtain ⟨Oc, Orr, hperm, hrc, hat, hlb, hst, hw⟩ := focus (s :: p) k2 hndV.2 hle hp hg (fun b o hb => by
            simp only [Option.some.injEq, Prod.mk.injEq] at hb; obtain ⟨rfl, _⟩ := hb; exact hndV.1) (fun b o hb => by
            simp only [Option.some.injEq, Prod.mk.injEq] at hb; obtain ⟨rfl, rfl⟩ := hb; exact at_heap hb0)
          obtain ⟨b, o, rfl⟩ := place_some _ hp (.inr ⟨_, rfl⟩)
          have hnd := hperm.nodup_iff.1 hndV.2
          have hmem : ∀ c ∈ Orr, c ∈ O1 := fun c hc => hperm.mem_iff.2 (List.mem_append_right _ hc)
          have hhol : SRep P G w F a.tmps E.at (a.tmps.getD V undef) (.hol true n0 τ x (s :: p)) (b0 :: Orr) := by
            refine ⟨b0, cs, el, Orr, hv2, hb0, k2.length, ⟨t', b, o, cs', hg, hp, hle, ?_, hrc.length, hat b o rfl, ?_, fun w1 hs1 => hst w1 hs1, fun w1 F1 y cs1 Ox xn hput he hch hrr => hw w1 F1 y cs1 Ox xn hput he hch hrr⟩, rfl⟩
            · rcases hlb b o rfl with hb | ⟨_, hb⟩
              · exact .inl hb
              · exact .inr hb
            · rcases hlb b o rfl with hb | ⟨_, o', hb⟩
              · exact k2.owned_blk b (hmem b hb)
              · simp only [Option.some.injEq, Prod.mk.injEq] at hb
                obtain ⟨rfl, _⟩ := hb
                exact ⟨_, el, hb0, Nat.zero_le _⟩
          have hf := h.hole (p := s :: p) (bx := true) hhol (by simpa using hrt.symm) ⟨by
            rw [List.nodup_cons]
            exact ⟨fun hc => hndV.1 (hmem _ hc), (List.nodup_append.1 hnd).2.1⟩, fun c hc => by
            rw [kO]
            rcases List.mem_cons.1 hc with rfl | hc
            · exact List.mem_cons_self ..
            · exact List.mem_cons_of_mem _ (hmem c hc)⟩
          have hE : ((E.hole true V (s :: p)).set V (.hol true n0 τ x (s :: p))).at = fun t => if t = V then .hol true n0 τ x (s :: p) else holeS true V (s :: p) (E.at t) := by
            funext u; rw [Env.at_set]; split
            · rfl
            · exact Env.at_hole E _ V u _
          rw [← hE] at hf
          refine ⟨_, Oc, cs', hf, hv, hrc, (List.nodup_append.1 hnd).1, fun c hc => ?_, fun c hc => ⟨V, by rw [kO]; exact List.mem_cons_of_mem _ (hperm.mem_iff.2 (List.mem_append_left _ hc))⟩, fun u c hc => by
            by_cases hu : u = V
            · subst hu
              simp only [if_true] at hc
              rw [kO]
              rcases List.mem_cons.1 hc with rfl | hc
              · exact List.mem_cons_self ..
              · exact List.mem_cons_of_mem _ (hmem c hc)
            · simpa only [hu, if_false] using hc⟩
          have hc1 : c ∈ O1 := hperm.mem_iff.2 (List.mem_append_left _ hc)
          have hcV : c ∈ O V := by rw [kO]; exact List.mem_cons_of_mem _ hc1
          obtain ⟨g1, g2, g3⟩ := h.own V c hcV
          refine ⟨g1, g2, g3, fun u => ?_⟩
          by_cases hu : u = V
          · simp only [hu, if_true]
            intro hc'
            rcases List.mem_cons.1 hc' with rfl | hc'
            · exact hndV.1 hc1
            · exact (List.nodup_append.1 hnd).2.2 c hc c hc' rfl
          · simp only [hu, if_false]
            exact h.apart V u (Ne.symm hu) c hcV
      · simp at hev
    · simp at hev
  · -- a part of a slot's slice
    rename_i to V lo hi n0 e1 xs
    simp only [roots, List.map_cons, List.map_nil, List.cons.injEq, and_true] at hrt
    split at hev
    · simp at hev
    · rename_i hn
      simp only [Option.some.injEq, Prod.mk.injEq] at hev
      obtain ⟨rfl, rfl, rfl⟩ := hev
      have hn' : n0 ≠ 0 := fun hc => hn (by rw [hc]; rfl)
      obtain ⟨_, ad, len, cap, e2, cs', l, hv, ⟨τ1, cs, l0, hroot, hp⟩, rfl, g0, g1, g2⟩ := hrep
      obtain ⟨rfl, hcs, rfl⟩ := hp
      have hVr := h.rep V
      rw [← hrt] at hroot hVr
      obtain ⟨he1, hv2, rfl⟩ := hroot
      simp only [Ty.slice.injEq] at he1
      subst he1
      obtain ⟨cs2, k1, k2⟩ := hVr
      obtain rfl := hv2.inj k1
      obtain ⟨ad', cap', css, Os, hcs', hcap, hcl, hol, hrr, hs⟩ := k2
      rw [← hcs] at hcs'
      simp only [List.cons.injEq, Value.slice.injEq, and_true] at hcs'
      obtain ⟨rfl, rfl, rfl⟩ := hcs'
      have hlen := sl_length g0 g1 g2
      have hmemO : ∀ c ∈ ((Os.take hi.toNat).drop lo.toNat).flatten, c ∈ Os.flatten := by
        intro c hc
        obtain ⟨y, hy, hc⟩ := List.mem_flatten.1 hc
        exact List.mem_flatten.2 ⟨y, List.mem_of_mem_take (List.mem_of_mem_drop hy), hc⟩
      have hsub : ((Os.take hi.toNat).drop lo.toNat).flatten.Sublist Os.flatten := by
        exact flatten_sub ((List.drop_sublist _ _).trans (List.take_sublist _ _))
      have helem : ∀ i (h : i < (sl xs lo hi).length) (h1 : i < ((css.take hi.toNat).drop lo.toNat).length) (h2 : i < ((Os.take hi.toNat).drop lo.toNat).length), Rep P e1 (n0 - 1) w F (sl xs lo hi)[i] ((css.take hi.toNat).drop lo.toNat)[i] ((Os.take hi.toNat).drop lo.toNat)[i] ∧ ((css.take hi.toNat).drop lo.toNat)[i].length = e1.sz := by
        intro i h h1 h2
        rw [hlen] at h
        simp only [sl, List.getElem_drop, List.getElem_take]
        exact hrr (lo.toNat + i) (by omega) (by omega) (by omega)
      have hv3 : VS (.slice e1) v [.slice (if cap = lo.toNat then ad else ad.map fun q => q.add (lo.toNat * e1.sz)) (hi - lo).toNat (cap - lo.toNat)] := by rw [hv]; rfl
      have hq1 : ((css.take hi.toNat).drop lo.toNat).length = (sl xs lo hi).length := by rw [hlen]; simp; omega
      have hq2 : ((Os.take hi.toNat).drop lo.toNat).length = (sl xs lo hi).length := by rw [hlen]; simp; omega
      have hq3 : (sl xs lo hi).length ≤ cap - lo.toNat := by rw [hlen]; omega
      by_cases hcz : cap = lo.toNat
      · refine Taken.all h hv3 (Ot := []) ⟨_, cap - lo.toNat, (css.take hi.toNat).drop lo.toNat, (Os.take hi.toNat).drop lo.toNat, by rw [hlen], hq3, hq1, hq2, helem, .inr (.inl ⟨by omega, by omega, rfl⟩)⟩ ⟨List.nodup_nil, fun b hb => by cases hb⟩
      · rcases hs with ⟨hn0, _⟩ | ⟨_, hc0, _⟩ | ⟨hn0, b, o, rfl, hat, hown, hOV⟩
        · omega
        · omega
        · refine Taken.all h hv3 (Ot := b :: ((Os.take hi.toNat).drop lo.toNat).flatten) ⟨_, cap - lo.toNat, (css.take hi.toNat).drop lo.toNat, (Os.take hi.toNat).drop lo.toNat, by rw [hlen], hq3, hq1, hq2, helem,
            .inr (.inr ⟨by omega, b, o + lo.toNat * e1.sz, by simp [hcz, add_at], fun i h1 => ?_, ?_, rfl⟩)⟩ ⟨?_, ?_⟩
          · simp only [List.length_drop, List.length_take] at h1
            simp only [List.getElem_drop, List.getElem_take]
            have := hat (lo.toNat + i) (by omega)
            rwa [Nat.add_mul, ← Nat.add_assoc] at this
          · obtain ⟨c, el, q1, q2⟩ := hown
            refine ⟨c, el, q1, ?_⟩
            have : lo.toNat * e1.sz + (cap - lo.toNat) * e1.sz = cap * e1.sz := by rw [← Nat.add_mul]; congr 1; omega
            omega
          · have hnd := h.nodup V
            rw [hOV, List.nodup_cons] at hnd
            rw [List.nodup_cons]
            exact ⟨fun hc => hnd.1 (hmemO _ hc), hnd.2.sublist hsub⟩
          · intro c hc
            rw [hOV]
            rcases List.mem_cons.1 hc with rfl | hc
            · exact List.mem_cons_self ..
            · exact List.mem_cons_of_mem _ (hmemO c hc)
  · -- a part of a tuple
    rename_i to V i rs
    simp only [roots, List.map_cons, List.map_nil, List.cons.injEq, and_true] at hrt
    split at hev
    · rename_i r hri
      simp only [Option.some.injEq, Prod.mk.injEq] at hev
      obtain ⟨rfl, rfl, rfl⟩ := hev
      obtain ⟨_, rs', vs, hrs, hT, hi⟩ := hrep
      rw [← hrt] at hrs
      simp only [S.tup.injEq] at hrs
      subst hrs
      have hVr := h.rep V
      rw [← hrt, hT] at hVr
      obtain ⟨vs', hvs', htup⟩ := hVr
      obtain rfl := Value.tuple.inj hvs'
      obtain ⟨v', cs, Oi, Orr, k1, k2, k3, k4, k5⟩ := htup.take hri
      simp only [List.getElem?_toArray] at hi
      rw [k1] at hi
      obtain rfl := Option.some.inj hi
      have hnd := k4.nodup_iff.1 (h.nodup V)
      have hmem : ∀ c ∈ Orr, c ∈ O V := fun c hc => k4.mem_iff.2 (List.mem_append_right _ hc)
      have hf : Fr P N w0 F0 G (E.set V (.tup (rs.set i none))).at a.tmps w F (fun t => if t = V then Orr else O t) := by
        refine h.less (fun u => ?_) fun u => ?_
        · rw [Env.at_set]
          by_cases hu : u = V
          · subst hu
            simp only [if_true]
            rw [hT]
            exact ⟨vs', rfl, k5⟩
          · simp only [hu, if_false]
            -- a tuple stays a tuple
            have hu' := h.rep u
            have key : ∀ {s : S} {Os : List Nat} {vv : Value}, SRep P G w F a.tmps E.at vv s Os → SRep P G w F a.tmps (E.set V (.tup (rs.set i none))).at vv s Os := by
              intro s
              induction s with
              | ref W q =>
                intro Os vv hh
                obtain ⟨h0, b, o, τ', cs', h1, h2⟩ := hh
                refine ⟨h0, b, o, τ', cs', h1, ?_⟩
                rw [Env.at_set]
                split
                · rename_i hW; rw [hW, ← hrt] at h2; obtain ⟨_, _, _, hc, _⟩ := h2; exact hc.elim
                · exact h2
              | bor W q =>
                intro Os vv hh
                obtain ⟨h0, ⟨q1, q2, q3⟩ | ⟨τ', cs', l, q1, q2⟩⟩ := hh
                · refine ⟨h0, .inl ?_⟩
                  by_cases hW : W = V
                  · exact ⟨by rw [Env.at_set, if_pos hW]; rfl, q2, q3⟩
                  · exact ⟨by rw [Env.at_set, if_neg hW]; exact q1, q2, q3⟩
                · refine ⟨h0, .inr ⟨τ', cs', l, q1, ?_⟩⟩
                  rw [Env.at_set]; split
                  · rename_i hW; rw [hW, ← hrt] at q2; obtain ⟨_, _, _, hc, _⟩ := q2; exact hc.elim
                  · exact q2
              | ext W j =>
                intro Os vv hh
                obtain ⟨h0, rs2, vs2, q1, q2, q3⟩ := hh
                by_cases hW : W = V
                · exact ⟨h0, _, vs2, by rw [Env.at_set, if_pos hW], q2, q3⟩
                · exact ⟨h0, rs2, vs2, by rw [Env.at_set, if_neg hW]; exact q1, q2, q3⟩
              | bsl W q lo hi =>
                intro Os vv hh
                obtain ⟨h0, ad, len, cap, e1, cs', l, q1, q2, q3⟩ := hh
                refine ⟨h0, ad, len, cap, e1, cs', l, q1, ?_, q3⟩
                rw [Env.at_set]; split
                · rename_i hW; rw [hW, ← hrt] at q2; obtain ⟨_, _, _, hc, _⟩ := q2; exact hc.elim
                · exact q2
              | hrf W l =>
                intro Os vv hh
                refine ⟨hh.1, fun hl => ?_⟩
                obtain ⟨bx, n, σ, x, p, b, o, τ', cs, cs', l', q1, q2⟩ := hh.2 hl
                have hW : W ≠ V := fun hc => by rw [hc, ← hrt] at q1; simp at q1
                exact ⟨bx, n, σ, x, p, b, o, τ', cs, cs', l', by rw [Env.at_set, if_neg hW]; exact q1, q2⟩
              | cnd g s ih => intro Os vv hh; exact ⟨fun hg => ih (hh.1 hg), hh.2⟩
              | clo f c => intro Os vv hh; exact hh
              | dead => intro Os vv hh; exact hh
              | v _ _ _ => intro Os vv hh; exact hh
              | box _ _ _ => intro Os vv hh; exact hh
              | tup _ => intro Os vv hh; exact hh
              | nil => intro Os vv hh; exact hh
              | hol bx _ _ _ _ => intro Os vv hh; cases bx <;> exact hh
            exact key hu'
        · by_cases hu : u = V
          · subst hu; simp only [if_true]; exact ⟨(List.nodup_append.1 hnd).2.1, hmem⟩
          · simp only [hu, if_false]; exact ⟨h.nodup u, fun b hb => hb⟩
      refine ⟨_, Oi, cs, hf, k2, k3, (List.nodup_append.1 hnd).1, fun c hc => ?_, fun c hc => ⟨V, k4.mem_iff.2 (List.mem_append_left _ hc)⟩, fun u c hc => by
        by_cases hu : u = V
        · subst hu; simp only [if_true] at hc; exact hmem c hc
        · simpa only [hu, if_false] using hc⟩
      have hcV : c ∈ O V := k4.mem_iff.2 (List.mem_append_left _ hc)
      obtain ⟨g1, g2, g3⟩ := h.own V c hcV
      refine ⟨g1, g2, g3, fun u => ?_⟩
      by_cases hu : u = V
      · simp only [hu, if_true]
        exact fun hc' => (List.nodup_append.1 hnd).2.2 c hc c hc' rfl
      · simp only [hu, if_false]
        exact h.apart V u (Ne.symm hu) c hcV
    · simp at hev
  · simp at hev

/-- A value is laid into slot d. -/
theorem Fr.lay (h : Fr P N w0 F0 G e T w F O) {d : Nat} {s : S} {v : Value} {On : List Nat} (hd : d < N) (hfree : ∀ t, d ∉ roots (e t)) (hs : SRep P G w F T e v s On) (hsd : d ∉ roots s) (hnd : On.Nodup)
    (hon : ∀ b ∈ On, w0.heap.size ≤ b ∧ b < w.heap.size ∧ ¬ F b ∧ ∀ u, u ≠ d → b ∉ O u) :
    Fr P N w0 F0 G (fun t => if t = d then s else e t) (T.setIfInBounds d v) w F (fun t => if t = d then On else O t) := by
  have hd' : d < T.size := by rw [h.size]; exact hd
  refine ⟨by simpa using h.size, h.below, h.sub, h.lt, h.old, fun t => ?_, fun t => ?_, fun t => ?_, fun t t' htt => ?_⟩
  · rw [getD_set hd']
    by_cases ht : t = d
    · simp only [ht, if_true]
      refine hs.slot fun V hV => ?_
      have hne : V ≠ d := fun hc => hsd (hc ▸ hV)
      exact ⟨by rw [getD_set hd', if_neg hne], fun _ => by simp [hne]⟩
    · simp only [ht, if_false]
      refine (h.rep t).slot fun V hV => ?_
      have hne : V ≠ d := fun hc => hfree t (hc ▸ hV)
      exact ⟨by rw [getD_set hd', if_neg hne], fun _ => by simp [hne]⟩
  · by_cases ht : t = d
    · simp only [ht, if_true]; exact hnd
    · simp only [ht, if_false]; exact h.nodup t
  · by_cases ht : t = d
    · simp only [ht, if_true]; exact fun b hb => ⟨(hon b hb).1, (hon b hb).2.1, (hon b hb).2.2.1⟩
    · simp only [ht, if_false]; exact h.own t
  · intro b hb hb'
    by_cases ht : t = d
    · simp only [ht, if_true] at hb
      have ht' : t' ≠ d := fun hc => htt (ht.trans hc.symm)
      simp only [ht', if_false] at hb'
      exact (hon b hb).2.2.2 t' ht' hb'
    · simp only [ht, if_false] at hb
      by_cases ht' : t' = d
      · simp only [ht', if_true] at hb'
        exact (hon b hb').2.2.2 t ht hb
      · simp only [ht', if_false] at hb'
        exact h.apart t t' htt b hb hb'
end
end Go.Tom
