/- What is known may be let go: slots are dropped, and what they own may be kept from now on. -/
import Derived.Test.YtagcgcpapjidcaaTomAC
set_option linter.unusedVariables false
set_option linter.unusedSimpArgs false
namespace Go.Tom
open Go

/-- Owned no deeper than n. -/
def low (n : Nat) : S → S
  | .v m τ x => .v (if Nat.ble n m then n else m) τ x
  | .box m τ x => .box (if Nat.ble n m then n else m) τ x
  | s => s

def Env.low (E : Env) (t n : Nat) : Env := E.set t (Tom.low n (E.at t))

def Env.lows (E : Env) : List (Nat × Nat) → Env
  | [] => E
  | (t, n) :: l => Env.lows (E.low t n) l

/-- These slots are kept, and what they own no deeper than that. -/
def Env.keep (E : Env) (l : List (Nat × Nat)) : Option Env :=
  let E1 := E.lows l
  let E2 : Env := l.map fun q => (q.1, E1.at q.1)
  if E2.all fun q => (roots q.2).all fun V => memb V (l.map (·.1)) then some E2 else none

def sameRoot (s s' : S) : Prop := s' = s ∨ (∃ n m τ x, s = .v n τ x ∧ s' = .v m τ x) ∨ ∃ n m τ x, s = .box n τ x ∧ s' = .box m τ x

theorem low_same (n : Nat) (s : S) : sameRoot s (low n s) := by
  cases s <;> first | exact .inl rfl | exact .inr (.inl ⟨_, _, _, _, rfl, rfl⟩) | exact .inr (.inr ⟨_, _, _, _, rfl, rfl⟩)

theorem PlaceOf.relevel {w : World} {s s' : S} (h : sameRoot s s') {v : Value} {p : List Step} {τ' : Ty} {cs' : List Value} {l' : Option (Nat × Nat)} (hp : PlaceOf w s v p τ' cs' l') : PlaceOf w s' v p τ' cs' l' := by
  rcases h with rfl | ⟨n, m, τ, x, rfl, rfl⟩ | ⟨n, m, τ, x, rfl, rfl⟩
  · exact hp
  · exact hp
  · exact hp

theorem SRep.relevel {P : Program} {G : Nat × Bool → Bool} {w : World} {F : Nat → Prop} {T : Array Value} {e e' : Nat → S} {v : Value} (he : ∀ V, sameRoot (e V) (e' V)) :
    ∀ {s : S} {O : List Nat}, SRep P G w F T e v s O → SRep P G w F T e' v s O := by
  have tup : ∀ V rs, e V = .tup rs → e' V = .tup rs := fun V rs h => by
    rcases he V with h1 | ⟨n, m, τ, x, h1, _⟩ | ⟨n, m, τ, x, h1, _⟩
    · rw [h1]; exact h
    · rw [h] at h1; simp at h1
    · rw [h] at h1; simp at h1
  intro s
  induction s with
  | ref V p => intro O h; obtain ⟨h0, b, o, τ', cs', h1, h2⟩ := h; exact ⟨h0, b, o, τ', cs', h1, h2.relevel (he V)⟩
  | bor V p =>
    intro O h
    obtain ⟨h0, ⟨k1, k2, k3⟩ | ⟨τ', cs', l, k1, k2⟩⟩ := h
    · refine ⟨h0, .inl ⟨?_, k2, k3⟩⟩
      rcases he V with h1 | ⟨n, m, τ, x, h1, _⟩ | ⟨n, m, τ, x, h1, _⟩
      · rw [h1]; exact k1
      · rw [h1] at k1; simp [passive] at k1
      · rw [h1] at k1; simp [passive] at k1
    · exact ⟨h0, .inr ⟨τ', cs', l, k1, k2.relevel (he V)⟩⟩
  | ext V i => intro O h; obtain ⟨h0, rs, vs, k1, k2, k3⟩ := h; exact ⟨h0, rs, vs, tup V rs k1, k2, k3⟩
  | bsl V p lo hi => intro O h; obtain ⟨h0, a, len, cap, e1, cs', l, k1, k2, k3⟩ := h; exact ⟨h0, a, len, cap, e1, cs', l, k1, k2.relevel (he V), k3⟩
  | hrf V l =>
    intro O h
    refine ⟨h.1, fun hl => ?_⟩
    obtain ⟨bx, n, σ, x, p, b, o, τ', cs, cs', l', k1, k2⟩ := h.2 hl
    refine ⟨bx, n, σ, x, p, b, o, τ', cs, cs', l', ?_, k2⟩
    rcases he V with h1 | ⟨n, m, τ, x, h1, _⟩ | ⟨n, m, τ, x, h1, _⟩
    · rw [h1]; exact k1
    · rw [k1] at h1; simp at h1
    · rw [k1] at h1; simp at h1
  | cnd g s ih => intro O h; exact ⟨fun hg => ih (h.1 hg), h.2⟩
  | clo f caps => intro O h; exact h
  | dead => intro O h; exact h
  | v n τ x => intro O h; exact h
  | box n τ x => intro O h; exact h
  | tup rs => intro O h; exact h
  | nil => intro O h; exact h
  | hol bx n τ x p => intro O h; cases bx <;> exact h

section
variable {P : Program} {N : Nat} {w0 w : World} {F0 F : Nat → Prop} {Gff : Nat × Bool → Bool} {T : Array Value} {O : Nat → List Nat}

theorem Fr.low {E : Env} (h : Fr P N w0 F0 Gff E.at T w F O) (V n : Nat) : ∃ F' O', Fr P N w0 F0 Gff (E.low V n).at T w F' O' := by
  have hE : ∀ t, (E.low V n).at t = if t = V then Tom.low n (E.at V) else E.at t := fun t => Env.at_set ..
  have hsame : ∀ t, sameRoot (E.at t) ((E.low V n).at t) := fun t => by
    rw [hE]
    split
    · rename_i ht; rw [ht]; exact low_same ..
    · exact .inl rfl
  have hrepV := h.rep V
  -- the slot's own word
  have key : ∃ (R Ov : List Nat), (∀ b ∈ R, b ∈ O V ∧ b ∉ Ov) ∧ Ov.Nodup ∧ (∀ b ∈ Ov, b ∈ O V) ∧ ∀ F', Ext w F w F' → (∀ b ∈ R, F' b) → SRep P Gff w F' T E.at (T.getD V undef) (Tom.low n (E.at V)) Ov := by
    have nochange : Tom.low n (E.at V) = E.at V → ∃ (R Ov : List Nat), (∀ b ∈ R, b ∈ O V ∧ b ∉ Ov) ∧ Ov.Nodup ∧ (∀ b ∈ Ov, b ∈ O V) ∧ ∀ F', Ext w F w F' → (∀ b ∈ R, F' b) → SRep P Gff w F' T E.at (T.getD V undef) (Tom.low n (E.at V)) Ov := fun hc =>
      ⟨[], O V, (fun b hb => by cases hb), h.nodup V, (fun b hb => hb), fun F' he _ => by rw [hc]; exact hrepV.keep he (fun _ _ _ => rfl) h.rep (fun _ _ => rfl)⟩
    cases hs : E.at V with
    | v m τ x =>
      rw [hs] at hrepV
      obtain ⟨cs, h1, h2⟩ := hrepV
      have hle : (if Nat.ble n m then n else m) ≤ m := by
        split
        · rename_i hb; exact Nat.le_of_ble_eq_true hb
        · exact Nat.le_refl _
      obtain ⟨O', R, hp, hk⟩ := h2.lower hle
      have hnd := hp.nodup_iff.1 (h.nodup V)
      exact ⟨R, O', (fun b hb => ⟨hp.mem_iff.2 (List.mem_append_right _ hb), fun hb' => (List.nodup_append.1 hnd).2.2 b hb' b hb rfl⟩), (List.nodup_append.1 hnd).1, (fun b hb => hp.mem_iff.2 (List.mem_append_left _ hb)), fun F' he hR => ⟨cs, h1, hk F' he hR⟩⟩
    | box m τ x =>
      rw [hs] at hrepV
      obtain ⟨b0, cs, el, Ox, h1, h2, h3, h4⟩ := hrepV
      have hle : (if Nat.ble n m then n else m) ≤ m := by
        split
        · rename_i hb; exact Nat.le_of_ble_eq_true hb
        · exact Nat.le_refl _
      obtain ⟨O', R, hp, hk⟩ := h3.lower hle
      have hndV := h.nodup V
      rw [h4, List.nodup_cons] at hndV
      have hnd := hp.nodup_iff.1 hndV.2
      refine ⟨R, b0 :: O', (fun b hb => ⟨?_, fun hb' => ?_⟩), List.nodup_cons.2 ⟨fun hc => hndV.1 (hp.mem_iff.2 (List.mem_append_left _ hc)), (List.nodup_append.1 hnd).1⟩, (fun b hb => ?_), fun F' he hR => ⟨b0, cs, el, O', h1, h2, hk F' he hR, rfl⟩⟩
      · rw [h4]; exact List.mem_cons_of_mem _ (hp.mem_iff.2 (List.mem_append_right _ hb))
      · rcases List.mem_cons.1 hb' with rfl | hb'
        · exact hndV.1 (hp.mem_iff.2 (List.mem_append_right _ hb))
        · exact (List.nodup_append.1 hnd).2.2 b hb' b hb rfl
      · rw [h4]
        rcases List.mem_cons.1 hb with rfl | hb
        · exact List.mem_cons_self ..
        · exact List.mem_cons_of_mem _ (hp.mem_iff.2 (List.mem_append_left _ hb))
    | _ => rw [hs] at nochange; exact nochange rfl
  obtain ⟨R, Ov, hR, hnd, hsub, hk⟩ := key
  have hRl : ∀ b ∈ R, w0.heap.size ≤ b ∧ b < w.heap.size ∧ ¬ F b := fun b hb => h.own V b (hR b hb).1
  have hext : Ext w F w (fun b => F b ∨ b ∈ R) := ⟨fun _ hb => .inl hb, fun _ _ => rfl, fun b hb => hb.elim (h.lt b) fun hb => (hRl b hb).2.1⟩
  refine ⟨fun b => F b ∨ b ∈ R, fun t => if t = V then Ov else O t, h.size, h.below, fun b hb => .inl (h.sub b hb), hext.lt, fun b hb hlt => ?_, fun t => ?_, fun t => ?_, fun t b hb => ?_, fun t t' htt b hb hb' => ?_⟩
  · rcases hb with hb | hb
    · exact h.old b hb hlt
    · have := (hRl b hb).1; omega
  · rw [hE]
    by_cases ht : t = V
    · subst ht
      simp only [if_true]
      exact (hk _ hext fun b hb => .inr hb).relevel hsame
    · simp only [ht, if_false]
      exact ((h.rep t).keep hext (fun _ _ _ => rfl) h.rep (fun _ _ => rfl)).relevel hsame
  · by_cases ht : t = V
    · simp only [ht, if_true]; exact hnd
    · simp only [ht, if_false]; exact h.nodup t
  · by_cases ht : t = V
    · simp only [ht, if_true] at hb
      obtain ⟨g1, g2, g3⟩ := h.own V b (hsub b hb)
      exact ⟨g1, g2, fun hF => hF.elim g3 fun hbR => (hR b hbR).2 hb⟩
    · simp only [ht, if_false] at hb
      obtain ⟨g1, g2, g3⟩ := h.own t b hb
      exact ⟨g1, g2, fun hF => hF.elim g3 fun hbR => h.apart V t (Ne.symm ht) b (hR b hbR).1 hb⟩
  · have h1 : b ∈ O t := by
      by_cases ht : t = V
      · simp only [ht, if_true] at hb; rw [ht]; exact hsub b hb
      · simpa only [ht, if_false] using hb
    have h2 : b ∈ O t' := by
      by_cases ht : t' = V
      · simp only [ht, if_true] at hb'; rw [ht]; exact hsub b hb'
      · simpa only [ht, if_false] using hb'
    exact h.apart t t' htt b h1 h2

theorem Fr.lows {E : Env} (l : List (Nat × Nat)) : ∀ {E : Env} {F : Nat → Prop} {O : Nat → List Nat}, Fr P N w0 F0 Gff E.at T w F O → ∃ F' O', Fr P N w0 F0 Gff (E.lows l).at T w F' O' := by
  induction l with
  | nil => intro E F O h; exact ⟨F, O, h⟩
  | cons q l ih =>
    intro E F O h
    obtain ⟨t, n⟩ := q
    obtain ⟨F', O', h'⟩ := h.low t n
    exact ih h'

theorem Env.at_map {g : Nat → S} : ∀ {l : List (Nat × Nat)} {t : Nat}, Env.at (l.map fun q => (q.1, g q.1)) t = if memb t (l.map (·.1)) then g t else .dead
  | [], t => rfl
  | (k, n) :: l, t => by
    have ih := Env.at_map (g := g) (l := l) (t := t)
    simp only [List.map_cons, Env.at, memb, List.any_cons]
    by_cases h : Nat.beq t k = true
    · have := Nat.eq_of_beq_eq_true h
      subst this
      simp [Nat.beq_refl]
    · simp only [Bool.not_eq_true] at h
      simp only [h, Bool.false_eq_true, if_false, Bool.false_or]
      exact ih

theorem Fr.keep {E E' : Env} {l : List (Nat × Nat)} (h : Fr P N w0 F0 Gff E.at T w F O) (hk : E.keep l = some E') : ∃ F' O', Fr P N w0 F0 Gff E'.at T w F' O' := by
  unfold Env.keep at hk
  simp only at hk
  split at hk
  · rename_i hc
    simp only [Option.some.injEq] at hk
    subst hk
    obtain ⟨F', O', h1⟩ := Fr.lows (E := E) l h
    obtain ⟨O2, h2⟩ := h1.hide (e' := Env.at (l.map fun q => (q.1, (E.lows l).at q.1))) fun t => by
      rw [Env.at_map]
      by_cases hm : memb t (l.map (·.1)) = true
      · rw [if_pos hm]
        right
        refine ⟨rfl, fun V hV => ?_⟩
        rw [Env.at_map, if_pos]
        obtain ⟨q, hq, hqt⟩ := List.mem_map.1 (memb_iff.1 hm)
        have := List.all_eq_true.1 hc (q.1, (E.lows l).at q.1) (List.mem_map.2 ⟨q, hq, rfl⟩)
        refine List.all_eq_true.1 this V ?_
        simp only
        rw [hqt]
        exact hV
      · rw [if_neg hm]; exact .inl rfl
    exact ⟨F', O2, h2⟩
  · simp at hk
end
end Go.Tom
