/- A region's operations, one behind the other. -/
import Derived.Test.YtagcgcpapjidcaaTomY
set_option linter.unusedVariables false
set_option linter.unusedSimpArgs false
namespace Go.Tom
open Go

def Gf (G : Gs) : Nat × Bool → Bool := fun h => (G.at h).getD false

def GOk (ops : List Oper) (e : Nat → S) (G : Gs) : Prop := ∀ g c, G.at g = some c → gcond ops e G g = some c

theorem Gs.at_cons (g : Nat × Bool) (c : Bool) (G : Gs) (h : Nat × Bool) : Gs.at ((g, c) :: G) h = if g = h then some c else G.at h := by
  simp only [Gs.at]
  by_cases hh : g = h
  · subst hh; simp [Nat.beq_refl]
  · rw [if_neg hh, if_neg]
    simp only [Bool.and_eq_true, beq_iff_eq]
    rintro ⟨h1, h2⟩
    exact hh (Prod.ext (Nat.eq_of_beq_eq_true h1) h2)

/-- What is known of guards stays known. -/
def Gle (G G' : Gs) : Prop := ∀ g c, G.at g = some c → G'.at g = some c

theorem gcond_congr {ops : List Oper} {e e' : Nat → S} {G G' : Gs} (hG : Gle G G') {g : Nat × Bool} {c : Bool} (he : ∀ d, gslot ops g.1 = some d → e d = .dead ∨ e' d = e d) (h : gcond ops e G g = some c) : gcond ops e' G' g = some c := by
  unfold gcond at h ⊢
  split at h
  · simp at h
  · rename_i d hd
    rcases he d hd with hz | hz
    · rw [hz] at h; simp at h
    · rw [hz]
      split at h
      · simpa using h
      · split at h
        · rename_i c' hc'
          rw [hG _ _ hc']; exact h
        · simp at h
      · simp at h

theorem anc_sound {ops : List Oper} {e e' : Nat → S} {G : Gs} {Gff : Nat × Bool → Bool} (hle : ∀ t, e t = .dead ∨ e t = e' t) (hG : GOk ops e' G) (hGf : ∀ g c, G.at g = some c → Gff g = c) :
    ∀ {k : Nat} {g : Nat × Bool}, Gff g = true → gcond ops e' G g = some true → ∀ h ∈ anc ops e k g, Gff h = true := by
  intro k
  induction k with
  | zero => intro g hg _ h hh; rw [anc, List.mem_singleton] at hh; rw [hh]; exact hg
  | succ k ih =>
    intro g hg hc h hh
    rw [anc] at hh
    rcases List.mem_cons.1 hh with rfl | hh
    · exact hg
    · split at hh
      · rename_i d hd
        split at hh
        · rename_i g' s hs
          rcases hle d with hz | hz
          · rw [hz] at hs; simp at hs
          · rw [hz] at hs
            unfold gcond at hc
            rw [hd] at hc
            simp only [hs] at hc
            split at hc
            · simp at *
            · rename_i g1 n β hgs
              simp only [S.cnd.injEq] at hgs
              obtain ⟨rfl, rfl⟩ := hgs
              split at hc
              · rename_i c' hc'
                simp only [Option.some.injEq, Bool.and_eq_true] at hc
                have hct : c' = true := hc.1
                subst hct
                exact ih (hGf _ _ hc') (hG _ _ hc') h hh
              · simp at hc
            · simp at hc
        · cases hh
      · cases hh

section
variable {P : Program} {N : Nat} {w0 w : World} {F0 F : Nat → Prop} {e e' : Nat → S} {a : Act} {T : Array Value} {O : Nat → List Nat} {Gff : Nat × Bool → Bool}

theorem pickG_mem {ops : List Oper} {b : Bool} {c : Nat} {G0 : Gs} : ∀ {G : Gs}, (∀ q ∈ G, ∃ c, G0.at q.1 = some c) → ∀ h ∈ pickG ops b c G, gslot ops h.1 = some c ∧ h.2 = b ∧ ∃ v, G0.at h = some v
  | [], _, h, hh => by cases hh
  | (g, v) :: G, hall, h, hh => by
    have rest := pickG_mem (ops := ops) (b := b) (c := c) (G := G) fun q hq => hall q (List.mem_cons_of_mem _ hq)
    simp only [pickG] at hh
    split at hh
    · rename_i d hd
      split at hh
      · rename_i hc
        simp only [Bool.and_eq_true, beq_iff_eq] at hc
        rcases List.mem_cons.1 hh with rfl | hh
        · have := Nat.eq_of_beq_eq_true hc.1
          subst this
          exact ⟨hd, hc.2, hall _ (List.mem_cons_self ..)⟩
        · exact rest h hh
      · exact rest h hh
    · exact rest h hh

theorem Gs.at_mem : ∀ {G : Gs}, ∀ q ∈ G, ∃ c, G.at q.1 = some c
  | [], q, h => by cases h
  | (g, v) :: G, q, h => by
    rw [Gs.at_cons]
    split
    · exact ⟨v, rfl⟩
    · rename_i hne
      rcases List.mem_cons.1 h with rfl | h
      · exact absurd rfl hne
      · exact Gs.at_mem q h

theorem pick_guards {ops : List Oper} {G : Gs} {ok : List (Nat × Bool)} (hle : ∀ t, e t = .dead ∨ e t = e' t) (hG : GOk ops e' G) (hGf : ∀ g c, G.at g = some c → Gff g = c) (hok : ∀ g ∈ ok, Gff g = true) {o : Oper} {c x y : Operand} (hop : o.op = .pick c x y) {β : Bool} (hβ : rdBool (opd ok e c) = some β) :
    ∀ g ∈ pickOk ops G o β ok, Gff g = true := by
  intro g hg
  unfold pickOk at hg
  rw [hop] at hg
  cases c with
  | tmp t =>
    simp only at hg
    rcases List.mem_append.1 hg with hg | hg
    · obtain ⟨h1, h2, v, hv⟩ := pickG_mem (G0 := G) Gs.at_mem g hg
      have hgc := hG _ _ hv
      have hvt : v = true := by
        unfold gcond at hgc
        rw [h1] at hgc
        simp only at hgc
        rcases hle t with hz | hz
        · simp [opd, hz, rdBool, rdk] at hβ
        · rw [← hz] at hgc
          split at hgc
          · rename_i n β' he
            simp only [Option.some.injEq] at hgc
            simp only [opd, he, rdBool, rdk, Ty.flat, Bool.true_or, if_true, Option.some.injEq] at hβ
            subst hβ
            rw [← hgc, h2]
            cases β' <;> rfl
          · rename_i g' n β' he
            split at hgc
            · rename_i c' hc'
              simp only [Option.some.injEq] at hgc
              simp only [opd, he] at hβ
              split at hβ
              · rename_i hin
                simp only [rdBool, rdk, Ty.flat, Bool.true_or, if_true, Option.some.injEq] at hβ
                subst hβ
                have := hok _ (gIn_mem hin)
                rw [hGf _ _ hc'] at this
                rw [← hgc, h2, this]
                cases β' <;> rfl
              · simp [rdBool, rdk] at hβ
            · simp at hgc
          · simp at hgc
      rw [hGf _ _ hv, hvt]
    · exact hok g hg
  | _ => exact hok g hg

theorem SRep.bool_at {d : Nat} {n : Nat} {β : Bool} {v : Value} {Os : List Nat} (h : SRep P Gff w F T e v (.v n .bool β) Os) : v = .bool β := by
  obtain ⟨cs, h1, h2, _⟩ := h
  rw [h1] at h2
  simpa using h2

theorem quiet_sound {A : Array Oper} (h : Fr P N w0 F0 Gff e a.tmps w F O) {tys : Tys} (ht : tys.ok P = true) (hle : ∀ t, e t = .dead ∨ e t = e' t) {G G' : Gs} (hG : GOk A.toList e' G) {o : Oper} {sup sup' : List Sup} {s : S} {l : List Prop}
    (hq : quiet P tys A.toList e G o sup = some (s, l, sup', G')) (hGf : ∀ g c, G'.at g = some c → Gff g = c) (hl : ∀ p ∈ l, p) {K : Act → World → Prop} {Q : Exit → Act → World → Prop}
    (hK : ∀ v w' F' On, Out w F w' F' On → SRep P Gff w' F' a.tmps e v s On → K (a.put o.dst v) w') :
    if Region.wanted o (yielded A a.tmps) then o.wp P a w K Q ∨ (o.asks P a w ∧ LetsOut Q) else K (a.put o.dst undef) w := by
  unfold quiet at hq
  split at hq
  · rename_i hg
    split at hq
    · rename_i s1 l1 sup1 hev
      simp only [Option.some.injEq, Prod.mk.injEq] at hq
      obtain ⟨rfl, rfl, rfl, rfl⟩ := hq
      have hw : Region.wanted o (yielded A a.tmps) = true := by simp [Region.wanted, hg]
      rw [if_pos hw]
      left
      have hok0 : ∀ g ∈ ([] : List (Nat × Bool)), Gff g = true := fun g hg => by cases hg
      exact evalQ_sound h ht hok0 (fun c x y hop β hβ => ⟨fun hb => by subst hb; exact pick_guards hle hG hGf hok0 hop hβ, fun hb => by subst hb; exact pick_guards hle hG hGf hok0 hop hβ⟩) hev hl K Q hK
    · simp at hq
  · rename_i g hg
    split at hq
    · simp at hq
    · rename_i c hc
      split at hq
      · rename_i s1 l1 sup1 hev
        simp only [Option.some.injEq, Prod.mk.injEq] at hq
        obtain ⟨rfl, rfl, rfl, hG'⟩ := hq
        have hgl : Gle G G' := by
          subst hG'
          cases hat : G.at g with
          | some c0 => exact fun _ _ h => h
          | none =>
            intro g0 c0 h0
            simp only
            rw [Gs.at_cons]
            split
            · rename_i hgg; subst hgg; rw [hat] at h0; simp at h0
            · exact h0
        have hGf0 : ∀ g c, G.at g = some c → Gff g = c := fun g c hgc => hGf g c (hgl g c hgc)
        have hc' : gcond A.toList e' G g = some c := gcond_congr (fun _ _ h => h) (fun d _ => by
          rcases hle d with hz | hz
          · exact .inl hz
          · exact .inr hz.symm) hc
        have hgc : Gff g = c := by
          refine hGf g c ?_
          subst hG'
          cases hat : G.at g with
          | some c0 =>
            simp only
            have := hG _ _ hat
            rw [hc'] at this
            rw [hat, ← this]
          | none =>
            simp only
            rw [Gs.at_cons, if_pos rfl]
        -- is it wanted?
        have hw : Region.wanted o (yielded A a.tmps) = c := by
          simp only [Region.wanted, hg]
          unfold gcond at hc
          split at hc
          · simp at hc
          · rename_i d hd
            have hd' : (A[g.1]?).bind (·.dst) = some d := by
              simpa [gslot] using hd
            have hrd := h.rep d
            have hval : ∀ β, a.tmps.getD d undef = .bool β → yielded A a.tmps g.1 = some β := by
              intro β hb
              simp only [yielded, hd', Option.bind_some]
              by_cases hlt : d < a.tmps.size
              · simp only [Array.getD, hlt, dif_pos] at hb
                rw [Array.getElem?_eq_getElem hlt]
                have : a.tmps[d] = .bool β := hb
                rw [this]
              · simp [Array.getD, hlt, undef] at hb
            have hund : a.tmps.getD d undef = undef → yielded A a.tmps g.1 = none := by
              intro hb
              simp only [yielded, hd', Option.bind_some]
              by_cases hlt : d < a.tmps.size
              · simp only [Array.getD, hlt, dif_pos] at hb
                rw [Array.getElem?_eq_getElem hlt]
                have : a.tmps[d] = undef := hb
                rw [this]
                rfl
              · rw [Array.getElem?_eq_none (by omega)]
            split at hc
            · rename_i n β he
              rw [he] at hrd
              simp only [Option.some.injEq] at hc
              rw [hval β (SRep.bool_at (d := d) hrd), ← hc]
              cases g.2 <;> cases β <;> rfl
            · rename_i g' n β he
              rw [he] at hrd
              split at hc
              · rename_i c1 hc1
                simp only [Option.some.injEq] at hc
                have hg1 := hGf0 _ _ hc1
                cases hcc : c1 with
                | true =>
                  rw [hcc] at hg1 hc
                  rw [hval β (SRep.bool_at (d := d) (hrd.1 hg1)), ← hc]
                  cases g.2 <;> cases β <;> rfl
                | false =>
                  rw [hcc] at hg1 hc
                  rw [hund (hrd.2 hg1).1, ← hc]
                  rfl
              · simp at hc
            · simp at hc
        rw [hw]
        cases c with
        | false =>
          simp only [Bool.false_eq_true, if_false]
          exact hK undef w F [] (Out.refl h.lt) ⟨fun hgt => by rw [hgc] at hgt; simp at hgt, fun _ => ⟨rfl, rfl⟩⟩
        | true =>
          simp only [if_true]
          left
          have hok := anc_sound (k := A.toList.length) hle hG hGf0 hgc hc'
          refine evalQ_sound h ht hok (fun c x y hop β hβ => ⟨fun hb => by subst hb; exact pick_guards hle hG hGf0 hok hop hβ, fun hb => by subst hb; exact pick_guards hle hG hGf0 hok hop hβ⟩) hev (fun p hp => hl _ (List.mem_map.2 ⟨p, hp, rfl⟩) rfl) K Q ?_
          intro v w' F' On ho hs
          exact hK v w' F' On ho ⟨fun _ => hs, fun hgt => by rw [hgc] at hgt; simp at hgt⟩
      · simp at hq

theorem SRep.guards {Gf1 Gf2 : Nat × Bool → Bool} {v : Value} : ∀ {s : S} {Os : List Nat}, SRep P Gf1 w F T e v s Os → (∀ g, hasG g s = true → Gf2 g = Gf1 g) → SRep P Gf2 w F T e v s Os := by
  intro s
  induction s with
  | cnd g s ih =>
    intro Os h hg
    have h1 := hg g (by simp [hasG, Nat.beq_refl])
    refine ⟨fun hh => ih (h.1 (by rw [← h1]; exact hh)) fun g' hg' => hg g' (by simp [hasG, hg']), fun hh => h.2 (by rw [← h1]; exact hh)⟩
  | ref _ _ => intro Os h _; exact h
  | bor _ _ => intro Os h _; exact h
  | ext _ _ => intro Os h _; exact h
  | clo _ _ => intro Os h _; exact h
  | bsl _ _ _ _ => intro Os h _; exact h
  | hrf _ _ => intro Os h _; exact h
  | dead => intro Os h _; exact h
  | v _ _ _ => intro Os h _; exact h
  | box _ _ _ => intro Os h _; exact h
  | tup _ => intro Os h _; exact h
  | nil => intro Os h _; exact h
  | hol bx _ _ _ _ => intro Os h _; cases bx <;> exact h

theorem Fr.guards {Gf1 Gf2 : Nat × Bool → Bool} (h : Fr P N w0 F0 Gf1 e T w F O) (hg : ∀ t g, hasG g (e t) = true → Gf2 g = Gf1 g) : Fr P N w0 F0 Gf2 e T w F O :=
  ⟨h.size, h.below, h.sub, h.lt, h.old, fun t => (h.rep t).guards (hg t), h.nodup, h.own, h.apart⟩

theorem Env.at_any {E : Env} {p : S → Bool} (h : (E.any fun q => p q.2) = false) (hd : p .dead = false) (t : Nat) : p (E.at t) = false := by
  induction E with
  | nil => exact hd
  | cons q E ih =>
    obtain ⟨k, s⟩ := q
    simp only [List.any_cons, Bool.or_eq_false_iff] at h
    simp only [Env.at]
    split
    · exact h.1
    · exact ih h.2

theorem Env.at_drop (E : Env) (t : Nat) : E.drop.at t = dropS (E.at t) := by
  induction E with
  | nil => rfl
  | cons q E ih =>
    obtain ⟨k, s⟩ := q
    simp only [Env.drop, List.map_cons, Env.at]
    split
    · rfl
    · exact ih

/-- What hangs on guards is let go; other guards may be spoken of. -/
theorem Fr.drop {E : Env} {Gf2 : Nat × Bool → Bool} (h : Fr P N w0 F0 Gff E.at T w F O) : ∃ O', Fr P N w0 F0 Gf2 E.drop.at T w F O' := by
  have hsol : ∀ s, solid s = true → dropS s = s := fun s hs => by cases s <;> first | rfl | simp [solid] at hs
  have h1 : Fr P N w0 F0 Gff E.drop.at T w F (fun t => match E.at t with | .cnd _ _ => [] | _ => O t) := by
    refine h.less (fun t => ?_) fun t => ?_
    · have hr := h.rep t
      rw [Env.at_drop]
      have other : ∀ s, E.at t = s → SRep P Gff w F T E.at (T.getD t undef) s (O t) → SRep P Gff w F T E.drop.at (T.getD t undef) s (O t) := by
        intro s hs hrs
        exact hrs.slot fun V _ => ⟨rfl, fun hV => by rw [Env.at_drop]; exact hsol _ hV⟩
      cases hs : E.at t <;> rw [hs] at hr <;> simp only [dropS]
      case cnd => rfl
      all_goals exact other _ hs hr
    · split
      · exact ⟨List.nodup_nil, fun b hb => by cases hb⟩
      · exact ⟨h.nodup t, fun b hb => hb⟩
  refine ⟨_, h1.guards fun t g hg => ?_⟩
  rw [Env.at_drop] at hg
  cases hs : E.at t <;> rw [hs] at hg <;> simp [dropS, hasG] at hg

theorem effect_sound {E E' : Env} (h : Fr P N w0 F0 Gff E.at a.tmps w F O) {tys : Tys} (ht : tys.ok P = true) {A : Array Oper} {o : Oper} {l : List Prop} (hev : effect tys N E o = some (E', l)) (hl : ∀ p ∈ l, p) {K : Act → World → Prop} {Q : Exit → Act → World → Prop}
    (hK : ∀ v w1 F1 O1, Fr P N w0 F0 Gff E'.at (a.put o.dst v).tmps w1 F1 O1 → K (a.put o.dst v) w1) :
    if Region.wanted o (yielded A a.tmps) then o.wp P a w K Q ∨ (o.asks P a w ∧ LetsOut Q) else K (a.put o.dst undef) w := by
  have op0 := fun x => opd_ok h (ok := []) (fun g hg => by cases hg) x
  unfold effect at hev
  split at hev
  · rename_i x d hg hop hdst
    have hw : Region.wanted o (yielded A a.tmps) = true := by simp [Region.wanted, hg]
    rw [if_pos hw]
    left
    split at hev
    rotate_left
    · simp at hev
    rename_i hd
    split at hev
    rotate_left
    · simp at hev
    rename_i E1 h1
    simp only [Option.some.injEq, Prod.mk.injEq] at hev
    obtain ⟨rfl, rfl⟩ := hev
    obtain ⟨O', hf⟩ := evAssign_sound h (Nat.le_of_ble_eq_true hd) (op0 x) h1
    unfold Oper.wp
    simp only [execOp, hop, Sem.run_pure, Oper.upon]
    exact hK _ w F O' (by rw [hdst]; exact hf)
  · rename_i Tt x d hg hop hdst
    have hw : Region.wanted o (yielded A a.tmps) = true := by simp [Region.wanted, hg]
    rw [if_pos hw]
    left
    split at hev
    rotate_left
    · simp at hev
    rename_i hd
    split at hev
    rotate_left
    · simp at hev
    rename_i E1 h1
    simp only [Option.some.injEq, Prod.mk.injEq] at hev
    obtain ⟨rfl, rfl⟩ := hev
    obtain ⟨w1, F1, O1, hrun, hf⟩ := evBox_sound h ht (Nat.le_of_ble_eq_true hd) (op0 x) h1
    unfold Oper.wp
    simp only [execOp, hop, Sem.run_bind, hrun, Result.andThen_ok, Sem.run_pure, Oper.upon]
    exact hK _ w1 F1 O1 (by rw [hdst]; exact hf)
  · rename_i Tt ad x hg hop hdst
    have hw : Region.wanted o (yielded A a.tmps) = true := by simp [Region.wanted, hg]
    rw [if_pos hw]
    left
    obtain ⟨w1, F1, O1, hrun, hf⟩ := evStore_sound h ht (op0 ad) (op0 x) hev hl
    unfold Oper.wp
    simp only [execOp, hop, Sem.run_bind, hrun, Result.andThen_ok, Sem.run_pure, Oper.upon]
    exact hK _ w1 F1 O1 (by rw [hdst]; exact hf)
  · rename_i args Ts d hg hop hdst
    have hw : Region.wanted o (yielded A a.tmps) = true := by simp [Region.wanted, hg]
    rw [if_pos hw]
    left
    split at hev
    rotate_left
    · simp at hev
    rename_i hd
    split at hev
    rotate_left
    · simp at hev
    rename_i s x Tt T2 hargs hTs
    split at hev
    rotate_left
    · simp at hev
    rename_i hT2
    have ha : args = #[s, x] := by apply Array.toList_inj.1; simpa using hargs
    have hT : Ts = #[Tt, T2] := by apply Array.toList_inj.1; simpa using hTs
    subst ha; subst hT
    obtain ⟨v, w1, F1, O1, hrun, hf⟩ := evAppend_sound (ty := o.type) h ht (Nat.le_of_ble_eq_true hd) hT2 (op0 s) hev hl
    unfold Oper.wp
    have hex : (execOp a.eval o).run P w = .ok (.value v) w1 := by
      simp [execOp, hop, resolve, invoke, builtin, hrun]
    rw [hex]
    exact hK _ w1 F1 O1 (by rw [hdst]; exact hf)
  · simp at hev

theorem free_spec {ops : List Oper} {E : Env} {G : Gs} {d : Nat} {s : S} (h : free ops N E G d s = true) : d < N ∧ (∀ t, d ∉ roots (E.at t)) ∧ d ∉ roots s ∧ ∀ g c, G.at g = some c → gslot ops g.1 ≠ some d := by
  simp only [free, Bool.and_eq_true, Bool.not_eq_true'] at h
  obtain ⟨⟨⟨h1, h2⟩, h3⟩, h4⟩ := h
  refine ⟨Nat.le_of_ble_eq_true h1, fun t ht => ?_, fun hs => ?_, fun g c hgc hd => ?_⟩
  · have := Env.at_any (p := rooted d) h2 rfl t
    rw [rooted_iff.2 ht] at this
    simp at this
  · rw [rooted_iff.2 hs] at h4; simp at h4
  · simp only [noG, Bool.not_eq_true'] at h3
    have key : ∀ {G : Gs}, G.at g = some c → (G.any fun q => match gslot ops q.1.1 with | some d' => Nat.beq d d' | none => false) = true := by
      intro G
      induction G with
      | nil => intro h; simp [Gs.at] at h
      | cons q G ih =>
        intro h
        obtain ⟨g0, c0⟩ := q
        rw [Gs.at_cons] at h
        simp only [List.any_cons, Bool.or_eq_true]
        split at h
        · rename_i hgg
          subst hgg
          left
          rw [hd]
          exact Nat.beq_refl d
        · exact .inr (ih h)
    exact absurd ((key hgc).symm.trans h3) (by simp)

/-- What one operation leaves. -/
theorem quiet_G {ops : List Oper} {G G' : Gs} {o : Oper} {tys : Tys} {sup sup' : List Sup} {s : S} {l : List Prop} (hq : quiet P tys ops e G o sup = some (s, l, sup', G')) :
    Gle G G' ∧ (∀ g c, G'.at g = some c → G.at g = some c ∨ (gcond ops e G g = some c ∧ o.guard = some g ∧ G.at g = none)) := by
  unfold quiet at hq
  split at hq
  · split at hq
    · simp only [Option.some.injEq, Prod.mk.injEq] at hq
      obtain ⟨_, _, _, rfl⟩ := hq
      exact ⟨fun _ _ h => h, fun _ _ h => .inl h⟩
    · simp at hq
  · rename_i g hg
    split at hq
    · simp at hq
    · rename_i c hc
      split at hq
      · simp only [Option.some.injEq, Prod.mk.injEq] at hq
        obtain ⟨_, _, _, rfl⟩ := hq
        cases hat : G.at g with
        | some c0 => exact ⟨fun _ _ h => h, fun _ _ h => .inl h⟩
        | none =>
          simp only
          refine ⟨fun g0 c0 h0 => ?_, fun g0 c0 h0 => ?_⟩
          · rw [Gs.at_cons]
            split
            · rename_i hgg; subst hgg; rw [hat] at h0; simp at h0
            · exact h0
          · rw [Gs.at_cons] at h0
            split at h0
            · rename_i hgg
              subst hgg
              simp only [Option.some.injEq] at h0
              subst h0
              exact .inr ⟨hc, hg, hat⟩
            · exact .inl h0
      · simp at hq

theorem quiet_GOk {ops : List Oper} {E : Env} {G G' : Gs} {o : Oper} {tys : Tys} {sup sup' : List Sup} {s : S} {l : List Prop} (hle : ∀ t, e t = .dead ∨ e t = E.at t) (hG : GOk ops E.at G) (hq : quiet P tys ops e G o sup = some (s, l, sup', G')) {d : Nat}
    (hf : ∀ g c, G'.at g = some c → gslot ops g.1 ≠ some d) : GOk ops (E.set d s).at G' := by
  obtain ⟨h1, h2⟩ := quiet_G hq
  intro g c hgc
  have hne := hf g c hgc
  rcases h2 g c hgc with h | ⟨h, _⟩
  · exact gcond_congr h1 (fun d' hd' => .inr (by rw [Env.at_set, if_neg]; intro hdd; exact hne (hdd ▸ hd'))) (hG g c h)
  · refine gcond_congr h1 (fun d' hd' => ?_) h
    rcases hle d' with hz | hz
    · exact .inl hz
    · exact .inr (by rw [Env.at_set, if_neg]; exact hz.symm; intro hdd; exact hne (hdd ▸ hd'))

theorem newG_spec {E : Env} {G G' : Gs} {o : Oper} (hn : newG E G o = true) (h2 : ∀ g c, G'.at g = some c → G.at g = some c ∨ (o.guard = some g ∧ G.at g = none)) (h1 : Gle G G') (t : Nat) (g : Nat × Bool) (hg : hasG g (E.at t) = true) : Gf G' g = Gf G g := by
  simp only [Gf]
  cases hat : G.at g with
  | some c => rw [h1 _ _ hat]
  | none =>
    cases hat' : G'.at g with
    | none => rfl
    | some c =>
      rcases h2 g c hat' with h | ⟨h, _⟩
      · rw [hat] at h; simp at h
      · simp only [newG, h, hat, Bool.not_eq_true'] at hn
        have := Env.at_any (p := hasG g) hn rfl t
        rw [hg] at this
        simp at this

theorem stepO_sound {A : Array Oper} {tys : Tys} (ht : tys.ok P = true) {o : Oper} {st st' : St} (hst : stepO P tys N A.toList o st = some st') (hl : ∀ p ∈ st'.obs, p) (hG : GOk A.toList st.E.at st.G) (h : Fr P N w0 F0 (Gf st.G) st.E.at a.tmps w F O) {K : Act → World → Prop} {Q : Exit → Act → World → Prop}
    (hK : ∀ v w1 F1 O1, GOk A.toList st'.E.at st'.G → Fr P N w0 F0 (Gf st'.G) st'.E.at (a.put o.dst v).tmps w1 F1 O1 → K (a.put o.dst v) w1) :
    if Region.wanted o (yielded A a.tmps) then o.wp P a w K Q ∨ (o.asks P a w ∧ LetsOut Q) else K (a.put o.dst undef) w := by
  unfold stepO at hst
  split at hst
  · split at hst
    · rename_i E1 l1 hev
      simp only [Option.some.injEq] at hst
      subst hst
      obtain ⟨O', hd⟩ := h.drop (Gf2 := Gf [])
      exact effect_sound hd ht hev (fun p hp => hl p (List.mem_append_right _ hp)) fun v w1 F1 O1 hf => hK v w1 F1 O1 (fun g c hgc => by simp [Gs.at] at hgc) hf
    · simp at hst
  · split at hst
    · simp at hst
    · rename_i d hd
      split at hst
      · rename_i s l1 sup1 G1 hq
        split at hst
        · rename_i hc
          simp only [Bool.and_eq_true] at hc
          obtain ⟨hfr, hn⟩ := hc
          simp only [Option.some.injEq] at hst
          subst hst
          obtain ⟨f1, f2, f3, f4⟩ := free_spec hfr
          obtain ⟨g1, g2⟩ := quiet_G hq
          have hg := h.guards (Gf2 := Gf G1) fun t g hgt => newG_spec hn (fun g c hgc => (g2 g c hgc).imp id fun hh => hh.2) g1 t g hgt
          refine quiet_sound (e' := st.E.at) hg ht (fun t => .inr rfl) hG hq (fun g c hgc => by simp [Gf, hgc]) (fun p hp => hl p (List.mem_append_right _ hp)) fun v w' F' On ho hs => ?_
          have hp := hg.put f1 f2 ho hs f3
          refine hK v w' F' _ (quiet_GOk (fun t => .inr rfl) hG hq f4) (by
            rw [hd]
            have he : (st.E.set d s).at = fun t => if t = d then s else st.E.at t := by funext t; exact Env.at_set ..
            rw [he]
            exact hp)
        · simp at hst
      · simp at hst

theorem stepO_obs {ops : List Oper} {tys : Tys} {o : Oper} {st st' : St} (h : stepO P tys N ops o st = some st') : ∃ l, st'.obs = st.obs ++ l := by
  unfold stepO at h
  split at h
  · split at h
    · simp only [Option.some.injEq] at h; subst h; exact ⟨_, rfl⟩
    · simp at h
  · split at h
    · simp at h
    · split at h
      · split at h
        · simp only [Option.some.injEq] at h; subst h; exact ⟨_, rfl⟩
        · simp at h
      · simp at h

theorem evalOps_obs {ops : List Oper} {tys : Tys} : ∀ {rest : List Oper} {st st' : St}, evalOps P tys N ops rest st = some st' → ∃ l, st'.obs = st.obs ++ l
  | [], st, st', h => by simp only [evalOps, Option.some.injEq] at h; subst h; exact ⟨[], by simp⟩
  | o :: rest, st, st', h => by
    simp only [evalOps] at h
    split at h
    · rename_i st1 h1
      obtain ⟨l1, k1⟩ := stepO_obs h1
      obtain ⟨l2, k2⟩ := evalOps_obs h
      exact ⟨l1 ++ l2, by rw [k2, k1, List.append_assoc]⟩
    · simp at h

/-- THE REGION IN ITS OWN ORDER. -/
theorem evalOps_sound {A : Array Oper} {tys : Tys} (ht : tys.ok P = true) {Q : Exit → Act → World → Prop} {dfs : List Deferred} : ∀ {rest : List Oper} {is : List Nat} {st st' : St} {a : Act} {w : World} {F : Nat → Prop} {O : Nat → List Nat}, is.map (A[·]?) = rest.map some → evalOps P tys N A.toList rest st = some st' → (∀ p ∈ st'.obs, p) → GOk A.toList st.E.at st.G →
    Fr P N w0 F0 (Gf st.G) st.E.at a.tmps w F O → a.defers = dfs → (∀ a' w' F' O', a'.defers = dfs → Fr P N w0 F0 (Gf st'.G) st'.E.at a'.tmps w' F' O' → Q .normal a' w') → wpOps P A Q is a w := by
  intro rest
  induction rest with
  | nil =>
    intro is st st' a w F O his hev _ _ h hdf hQ
    simp only [List.map_nil, List.map_eq_nil_iff] at his
    subst his
    simp only [evalOps, Option.some.injEq] at hev
    subst hev
    exact hQ a w F O hdf h
  | cons o rest ih =>
    intro is st st' a w F O his hev hl hG h hdf hQ
    cases is with
    | nil => simp at his
    | cons i is =>
      simp only [List.map_cons, List.cons.injEq] at his
      obtain ⟨hi, his⟩ := his
      simp only [evalOps] at hev
      split at hev
      · rename_i st1 h1
        obtain ⟨l2, hl2⟩ := evalOps_obs hev
        simp only [wpOps, hi]
        refine stepO_sound ht h1 (fun p hp => hl p (by rw [hl2]; exact List.mem_append_left _ hp)) hG h fun v w1 F1 O1 hG1 hf => ?_
        refine ih his hev hl hG1 hf ?_ hQ
        cases o.dst <;> exact hdf
      · simp at hev
end
end Go.Tom
