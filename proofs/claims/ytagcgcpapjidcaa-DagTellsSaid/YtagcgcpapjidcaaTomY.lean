/- append, whole. -/
import Derived.Test.YtagcgcpapjidcaaTomX
set_option linter.unusedVariables false
set_option linter.unusedSimpArgs false
namespace Go.Tom
open Go

section
variable {P : Program} {N : Nat} {w0 w : World} {F0 F : Nat → Prop} {G : Nat × Bool → Bool} {e : Nat → S} {a : Act} {T : Array Value} {O : Nat → List Nat}

theorem Rep.sliceV {e1 : Ty} {n : Nat} {xs : List e1.den} {cs : List Value} {Ox : List Nat} (h : Rep P (.slice e1) n w F xs cs Ox) : ∃ ax cap, cs = [.slice ax xs.length cap] := by
  obtain ⟨ad, cap, _, _, hcs, _⟩ := h
  exact ⟨ad, cap, hcs⟩

/-- A row of flat elements, wherever it lies, may be put behind another. -/
theorem Rep.tailFlat {e1 : Ty} (hfl : e1.flat = true) {n m : Nat} {Fx : Nat → Prop} {ys : List e1.den} {xb : Option Addr} {len cap : Nat} {Oy : List Nat} (h : Rep P (.slice e1) n w Fx ys [.slice xb len cap] Oy) :
    ∃ css, Tail P w F e1 m ys xb css (List.replicate ys.length []) := by
  obtain ⟨ad, cap', css, Os, hcs, hcap, hcl, hol, hr, hs⟩ := h
  simp only [List.cons.injEq, Value.slice.injEq, and_true] at hcs
  obtain ⟨rfl, rfl, rfl⟩ := hcs
  refine ⟨css, hcl, by simp, fun i h h1 h2 => ?_, fun hy => ?_⟩
  · obtain ⟨k1, k2⟩ := hr i h h1 (by omega)
    rw [List.getElem_replicate]
    exact ⟨(k1.flat hfl).2 _ _ _, k2⟩
  · rcases hs with ⟨_, _, hx | ⟨b, o, hb, _, hat⟩⟩ | ⟨_, hc0, _⟩ | ⟨_, b, o, hb, hat, _⟩
    · exact absurd hx hy
    · exact ⟨b, o, hb, hat⟩
    · exact absurd (List.eq_nil_of_length_eq_zero (by omega)) hy
    · exact ⟨b, o, hb, hat⟩

theorem Rep.tail {e1 : Ty} {n m : Nat} (hm : m = n - 1) {ys : List e1.den} {xb : Option Addr} {len cap : Nat} {Oy : List Nat} (h : Rep P (.slice e1) n w F ys [.slice xb len cap] Oy) :
    ∃ css Os, Tail P w F e1 m ys xb css Os ∧ Os.flatten.Sublist Oy := by
  subst hm
  obtain ⟨ad, cap', css, Os, hcs, hcap, hcl, hol, hr, hs⟩ := h
  simp only [List.cons.injEq, Value.slice.injEq, and_true] at hcs
  obtain ⟨rfl, rfl, rfl⟩ := hcs
  rcases hs with ⟨_, hO, hx | ⟨b, o, hb, _, hat⟩⟩ | ⟨_, hc0, hO⟩ | ⟨_, b, o, hb, hat, _, hO⟩
  · exact ⟨css, Os, ⟨hcl, hol, hr, fun hy => absurd hx hy⟩, by rw [hO]; exact List.Sublist.refl _⟩
  · exact ⟨css, Os, ⟨hcl, hol, hr, fun _ => ⟨b, o, hb, hat⟩⟩, by rw [hO]; exact List.Sublist.refl _⟩
  · have hy : ys = [] := List.eq_nil_of_length_eq_zero (by omega)
    subst hy
    have ho : Os = [] := List.eq_nil_of_length_eq_zero (by simpa using hol)
    subst ho
    exact ⟨css, [], ⟨hcl, hol, hr, fun hy => absurd rfl hy⟩, by simp⟩
  · exact ⟨css, Os, ⟨hcl, hol, hr, fun _ => ⟨b, o, hb, hat⟩⟩, by rw [hO]; exact List.sublist_cons_self _ _⟩

theorem Free.more {R Os : List Nat} (h : Free w0 w F O Os) (hd : ∀ c ∈ Os, c ∉ R) : Free w0 w (fun c => F c ∨ c ∈ R) O Os := fun c hc => by
  obtain ⟨h1, h2, h3, h4⟩ := h c hc
  exact ⟨h1, h2, fun hF => hF.elim h3 (hd c hc), h4⟩

theorem evAppend_sound {E E' : Env} (h : Fr P N w0 F0 G E.at a.tmps w F O) {tys : Tys} (ht : tys.ok P = true) {d : Nat} (hd : d < N) {Ti T2 ty : TypeId} (hT2 : tyAt tys T2 = tyAt tys Ti) {s : RS} {vs : Value} (hs : RSOk P G w F E.at a O s vs) {x : Operand} {l : List Prop}
    (hev : evAppend tys E d Ti s x = some (E', l)) (hl : ∀ p ∈ l, p) :
    ∃ v w1 F1 O1, (Builtin.append_ #[Ti, T2] ty #[vs, a.eval x]).run P w = .ok v w1 ∧ Fr P N w0 F0 G E'.at (a.tmps.setIfInBounds d v) w1 F1 O1 := by
  unfold evAppend at hev
  split at hev
  rotate_left
  · simp at hev
  rename_i e1 hT
  have hok := tyAt_ok ht hT
  rw [hT] at hT2
  have hok2 := tyAt_ok ht hT2
  obtain ⟨Et, hu, hE⟩ := hok.slice
  obtain ⟨Et2, hu2, _⟩ := hok2.slice
  split at hev
  rotate_left
  · simp at hev
  rename_i n e2 xs E1 htk
  split at hev
  rotate_left
  · simp at hev
  rename_i h1
  subst h1
  split at hev
  rotate_left
  · simp at hev
  rename_i hdata
  obtain ⟨O1, Ot, cs, hf, hv, hrp, hnd, ho, _, hsub⟩ := take_sound h hs htk
  obtain rfl : cs = [vs] := hv
  obtain ⟨ax, capx, hvs⟩ := hrp.sliceV
  simp only [List.cons.injEq, and_true] at hvs
  subst hvs
  split at hev
  · rename_i hfl
    split at hev
    rotate_left
    · simp at hev
    rename_i e3 ys hrd
    split at hev
    rotate_left
    · simp at hev
    rename_i h2
    subst h2
    simp only [Option.some.injEq, Prod.mk.injEq] at hev
    obtain ⟨rfl, rfl⟩ := hev
    have hlim := hl _ (List.mem_singleton.2 rfl)
    simp only [limA] at hlim
    have hlim' : xs.length + ys.length ≤ 2147483648 := by omega
    obtain ⟨csy, hvy, hry⟩ := rdv_sound h (opd_ok h (ok := []) (fun g hg => by cases hg) x) hrd
    have hcy : csy = [a.eval x] := hvy
    rw [hcy] at hry
    obtain ⟨xb, xc, hxb⟩ := hry.sliceV
    simp only [List.cons.injEq, and_true] at hxb
    rw [hxb] at hry ⊢
    obtain ⟨css, htail⟩ := hry.tailFlat (F := F) (m := n) hfl
    have hnil : (List.replicate ys.length ([] : List Nat)).flatten = [] := flatten_nil fun y hy => (List.mem_replicate.1 hy).2
    obtain ⟨ar, capr, w1, On, hrun, hf1, hr1, hn1, hfr1⟩ := append_core (ty := ty) (xc := xc) hf hu hE hdata hu2 hrp hnd ho htail (by rw [hnil]; exact List.nodup_nil) (by rw [hnil]; exact fun c hc => by cases hc) (fun c _ => by rw [hnil]; simp) hlim'
    have hTk : Taken P N w0 F0 G a.tmps w1 F (fun u => O1 u ++ On) E1 (n + 1) ⟨.slice e3, xs ++ ys⟩ (.slice ar (xs.length + ys.length) capr) :=
      ⟨O1, On, _, hf1, rfl, hr1, hn1, hfr1, fun b hb => ⟨0, List.mem_append_right _ hb⟩, fun u b hb => List.mem_append_left _ hb⟩
    obtain ⟨O', hO'⟩ := hTk.lay hd
    exact ⟨_, w1, F, O', hrun, hO'⟩
  · rename_i hfl
    split at hev
    rotate_left
    · simp at hev
    rename_i k e3 ys E2 htk2
    split at hev
    rotate_left
    · simp at hev
    rename_i h2
    subst h2
    simp only [Option.some.injEq, Prod.mk.injEq] at hev
    obtain ⟨rfl, rfl⟩ := hev
    have hlim := hl _ (List.mem_singleton.2 rfl)
    simp only [limA] at hlim
    have hlim' : xs.length + ys.length ≤ 2147483648 := by omega
    obtain ⟨O2, Oy, csy, hf2, hvy, hry, hndy, hoy, hsuby, hsub2⟩ := take_sound hf (opd_ok hf (ok := []) (fun g hg => by cases hg) x) htk2
    have hcy : csy = [a.eval x] := hvy
    rw [hcy] at hry
    obtain ⟨xb, xc, hxb⟩ := hry.sliceV
    simp only [List.cons.injEq, and_true] at hxb
    rw [hxb] at hry ⊢
    obtain ⟨m, hm⟩ : ∃ m, m = min n (k - 1) := ⟨_, rfl⟩
    rw [← hm]
    obtain ⟨Ox', R1, p1, k1⟩ := hrp.lower (m := m + 1) (by omega)
    have hyl : ∃ Oy' R2, Oy.Perm (Oy' ++ R2) ∧ ∀ F', Ext w F w F' → (∀ b ∈ R2, F' b) → ∃ css Os, Tail P w F' e3 m ys xb css Os ∧ Os.flatten.Sublist Oy' := by
      by_cases hk : k = 0
      · subst hk
        refine ⟨[], Oy, by simp, fun F' he hR => ?_⟩
        have hz := hry.zero_nil
        rw [hz] at hry
        obtain ⟨css, Os, h1, h2⟩ := hry.tail (m := m) (by omega)
        exact ⟨css, Os, h1.mono he, h2⟩
      · obtain ⟨Oy', R2, p2, k2⟩ := hry.lower (m := m + 1) (by omega)
        exact ⟨Oy', R2, p2, fun F' he hR => (k2 F' he hR).tail (by omega)⟩
    obtain ⟨Oy', R2, p2, k2⟩ := hyl
    have hxm : ∀ c ∈ Ox' ++ R1, c ∈ Ot := fun c hc => p1.mem_iff.2 hc
    have hym : ∀ c ∈ Oy' ++ R2, c ∈ Oy := fun c hc => p2.mem_iff.2 hc
    have hxd := p1.nodup_iff.1 hnd
    have hyd := p2.nodup_iff.1 hndy
    have hcross : ∀ c ∈ Ot, c ∉ Oy := fun c hc hc' => by
      obtain ⟨u, hu⟩ := hsuby c hc'
      exact (ho c hc).2.2.2 u hu
    have hfx : Free w0 w F O2 Ot := fun c hc => by
      obtain ⟨g1, g2, g3, g4⟩ := ho c hc
      exact ⟨g1, g2, g3, fun u hu => g4 u (hsub2 u c hu)⟩
    have hfy : Free w0 w F O2 Oy := hoy
    have hRm : ∀ c ∈ R1 ++ R2, c ∈ Ot ∨ c ∈ Oy := fun c hc => by
      rcases List.mem_append.1 hc with hc | hc
      · exact .inl (hxm c (List.mem_append_right _ hc))
      · exact .inr (hym c (List.mem_append_right _ hc))
    have hmore := hf2.more (R := R1 ++ R2) fun c hc => by
      rcases hRm c hc with hc | hc
      · obtain ⟨g1, g2, g3, g4⟩ := hfx c hc; exact ⟨g1, g2, g4⟩
      · obtain ⟨g1, g2, g3, g4⟩ := hfy c hc; exact ⟨g1, g2, g4⟩
    have hext : Ext w F w (fun c => F c ∨ c ∈ R1 ++ R2) := ⟨fun _ hc => .inl hc, fun _ _ => rfl, hmore.lt⟩
    obtain ⟨css, Os, htail, hsl⟩ := k2 _ hext fun b hb => .inr (List.mem_append_right _ hb)
    have hxr := k1 _ hext fun b hb => .inr (List.mem_append_left _ hb)
    have hosm : ∀ c ∈ Os.flatten, c ∈ Oy' := fun c hc => hsl.subset hc
    obtain ⟨ar, capr, w1, On, hrun, hf1, hr1, hn1, hfr1⟩ := append_core (ty := ty) (xc := xc) hmore hu hE hdata hu2 hxr (List.nodup_append.1 hxd).1
      (Free.more (fun c hc => hfx c (hxm c (List.mem_append_left _ hc))) fun c hc hc' => by
        rcases List.mem_append.1 hc' with hc' | hc'
        · exact (List.nodup_append.1 hxd).2.2 c hc c hc' rfl
        · exact hcross c (hxm c (List.mem_append_left _ hc)) (hym c (List.mem_append_right _ hc')))
      htail ((List.nodup_append.1 hyd).1.sublist hsl)
      (Free.more (fun c hc => hfy c (hym c (List.mem_append_left _ (hosm c hc)))) fun c hc hc' => by
        rcases List.mem_append.1 hc' with hc' | hc'
        · exact hcross c (hxm c (List.mem_append_right _ hc')) (hym c (List.mem_append_left _ (hosm c hc)))
        · exact (List.nodup_append.1 hyd).2.2 c (hosm c hc) c hc' rfl)
      (fun c hc hc' => hcross c (hxm c (List.mem_append_left _ hc)) (hym c (List.mem_append_left _ (hosm c hc')))) hlim'
    have hTk : Taken P N w0 F0 G a.tmps w1 (fun c => F c ∨ c ∈ R1 ++ R2) (fun u => O2 u ++ On) E2 (m + 1) ⟨.slice e3, xs ++ ys⟩ (.slice ar (xs.length + ys.length) capr) :=
      ⟨O2, On, _, hf1, rfl, hr1, hn1, hfr1, fun b hb => ⟨0, List.mem_append_right _ hb⟩, fun u b hb => List.mem_append_left _ hb⟩
    obtain ⟨O', hO'⟩ := hTk.lay hd
    exact ⟨_, w1, _, O', hrun, hO'⟩
end
end Go.Tom
