/- A store is sound. -/
import Derived.Test.YtagcgcpapjidcaaTomV
set_option linter.unusedVariables false
set_option linter.unusedSimpArgs false
namespace Go.Tom
open Go

section
variable {P : Program} {N : Nat} {w0 w : World} {F0 F : Nat → Prop} {G : Nat × Bool → Bool} {e : Nat → S} {a : Act} {T : Array Value} {O : Nat → List Nat}

theorem hdr_setRow {b o : Nat} {cur : Array Value} {el : TypeId} (hb : w.heap[b]? = some (.cells cur el (0, 0))) {cs cs' : List Value} (hle : o + cs.length ≤ cur.size) (hat : At w b o cs') (hlen : cs'.length = cs.length) (h1 : ∀ c ∈ cs, NotSl c) (h2 : ∀ c ∈ cs', NotSl c) :
    Hdr w (w.setRow b (cur.toList.take o ++ cs ++ cur.toList.drop (o + cs.length)).toArray) := by
  intro c j v hc
  have hch := chg_setRow hb hle c
  by_cases hin : c = b ∧ o ≤ j ∧ j < o + cs.length
  · obtain ⟨rfl, hj1, hj2⟩ := hin
    have k1 := hch.inn o rfl (j - o) (by omega)
    have k2 := hat (j - o) (by omega)
    rw [show o + (j - o) = j from by omega] at k1 k2
    rw [hc] at k2
    exact ⟨_, k1, .inr ⟨by rw [Option.some.inj k2]; exact h2 _ (List.getElem_mem _), h1 _ (List.getElem_mem _)⟩⟩
  · refine ⟨v, ?_, .inl rfl⟩
    rw [hch.out j fun o' ho' => ?_]
    · exact hc
    · simp only [Option.some.injEq, Prod.mk.injEq] at ho'
      obtain ⟨rfl, rfl⟩ := ho'
      have : ¬ (o ≤ j ∧ j < o + cs.length) := fun hh => hin ⟨rfl, hh⟩
      omega

def mkRoot (bx : Bool) (m : Nat) (σ : Ty) (x : σ.den) : S := if bx then .box m σ x else .v m σ x

theorem mkRoot_roots {bx : Bool} {m : Nat} {σ : Ty} {x : σ.den} : roots (mkRoot bx m σ x) = [] := by cases bx <;> rfl

/-- A store at a place inside slot V. -/
theorem store_ref {E1 : Env} (hf : Fr P N w0 F0 G E1.at T w F O) {V : Nat} {bx : Bool} {m : Nat} {σ : Ty} {x0 : σ.den} (hV : E1.at V = mkRoot bx m σ x0) {p : List Step} {τ' : Ty} {cs' : List Value} {b o : Nat}
    (hpl : PlaceOf w (E1.at V) (T.getD V undef) p τ' cs' (some (b, o))) {t t' : TV} (hg : get p σ x0 = some t') (htt : t'.1 = t.1) {y : σ.den} (hput : put p σ x0 t = some y) {n : Nat} {v : Value} {cs : List Value} {Ot : List Nat}
    (hv : VS t.1 v cs) (hr : Rep P t.1 n w F t.2 cs Ot) (hndt : Ot.Nodup) (hft : Free w0 w F O Ot) {Ti : TypeId} (hok : TyOk P Ti t.1) (hle : idxs p ≤ m) :
    ∃ w1 F1 O1, (Instr.storeAt Ti (.pointer (some ⟨b, o, none⟩)) v).run P w = .ok () w1 ∧
      Fr P N w0 F0 G ((if t.1.flat then E1.killBor V else E1.kill V).set V (mkRoot bx (if t.1.flat then m else min m (n + idxs p)) σ y)).at T w1 F1 O1 := by
  -- the root
  have hroot : ∃ cs0 l Ox, ((l = none ∧ VS σ (T.getD V undef) cs0 ∧ bx = false ∧ O V = Ox) ∨ ∃ b0 el, bx = true ∧ T.getD V undef = .pointer (some ⟨b0, 0, none⟩) ∧ w.heap[b0]? = some (.cells cs0.toArray el (0, 0)) ∧ l = some (b0, 0) ∧ O V = b0 :: Ox) ∧
      Rep P σ m w F x0 cs0 Ox ∧ Place w p σ cs0 l τ' cs' (some (b, o)) := by
    obtain ⟨τ, cs0, l, hro, hp⟩ := hpl
    have hVr := hf.rep V
    rw [hV] at hro hVr
    cases bx with
    | false =>
      obtain ⟨rfl, h1, rfl⟩ := hro
      obtain ⟨cs2, k1, k2⟩ := hVr
      obtain rfl := h1.inj k1
      exact ⟨_, _, _, .inl ⟨rfl, h1, rfl, rfl⟩, k2, hp⟩
    | true =>
      obtain ⟨rfl, b0, el, h1, h2, rfl⟩ := hro
      obtain ⟨b1, cs2, el2, Ox, k1, k2, k3, k4⟩ := hVr
      rw [h1] at k1
      simp only [Value.pointer.injEq, Option.some.injEq, Addr.mk.injEq, and_true] at k1
      subst k1
      rw [h2] at k2
      simp only [Option.some.injEq, Obj.cells.injEq, and_true] at k2
      have hc : cs0 = cs2 := by simpa using congrArg Array.toList k2.1
      subst hc
      exact ⟨_, _, _, .inr ⟨b0, el, rfl, h1, h2, rfl, k4⟩, k3, hp⟩
  obtain ⟨cs0, l, Ox, hcase, hrep, hp⟩ := hroot
  have hOx : ∀ c ∈ Ox, c ∈ O V := fun c hc => by
    rcases hcase with ⟨_, _, _, h⟩ | ⟨_, _, _, _, _, _, h⟩
    · rw [h]; exact hc
    · rw [h]; exact List.mem_cons_of_mem _ hc
  have hndx : Ox.Nodup := by
    have := hf.nodup V
    rcases hcase with ⟨_, _, _, h⟩ | ⟨_, _, _, _, _, _, h⟩
    · rw [h] at this; exact this
    · rw [h, List.nodup_cons] at this; exact this.2
  have hl0 : ∀ b0 o0, l = some (b0, o0) → o0 = 0 ∧ (∃ el, w.heap[b0]? = some (.cells cs0.toArray el (0, 0))) ∧ b0 ∉ Ox ∧ b0 ∈ O V := by
    intro b0 o0 hb0
    rcases hcase with ⟨h, _⟩ | ⟨b1, el, _, _, h1, h2, h3⟩
    · rw [h] at hb0; simp at hb0
    · rw [h2] at hb0
      simp only [Option.some.injEq, Prod.mk.injEq] at hb0
      obtain ⟨rfl, rfl⟩ := hb0
      have := hf.nodup V
      rw [h3, List.nodup_cons] at this
      exact ⟨rfl, ⟨el, h1⟩, this.1, by rw [h3]; exact List.mem_cons_self ..⟩
  obtain ⟨m', hm'⟩ : ∃ m', m' = if t.1.flat then m else min m (n + idxs p) := ⟨_, rfl⟩
  rw [← hm']
  have hmm : m' ≤ m := by rw [hm']; split <;> omega
  have hle' : idxs p ≤ m' := by rw [hm']; split <;> omega
  have hn : t.1.flat = true ∨ m' - idxs p ≤ n := by
    by_cases hfl : t.1.flat = true
    · exact .inl hfl
    · right; rw [hm', if_neg hfl]; omega
  obtain ⟨O', R, hperm, hlow⟩ := hrep.lower hmm
  have hO' : ∀ c ∈ O', c ∈ O V := fun c hc => hOx c (hperm.mem_iff.2 (List.mem_append_left _ hc))
  have hR : ∀ c ∈ R, c ∈ O V := fun c hc => hOx c (hperm.mem_iff.2 (List.mem_append_right _ hc))
  have hndp := hperm.nodup_iff.1 hndx
  -- the slot is emptied
  have hk := hf.turn (V := V) (s := .dead) (On := []) rfl rfl ⟨List.nodup_nil, fun b hb => by cases hb⟩
  rw [← Env.kill_set] at hk
  have hnot : ∀ c ∈ O V, ∀ u, c ∉ (if u = V then [] else O u) := fun c hc u => by
    split
    · simp
    · rename_i hu; exact hf.apart V u (Ne.symm hu) c hc
  have hm := hk.more (R := R) fun c hc => by
    obtain ⟨h1, h2, h3⟩ := hf.own V c (hR c hc)
    exact ⟨h1, h2, hnot c (hR c hc)⟩
  have hext : Ext w F w (fun c => F c ∨ c ∈ R) := ⟨fun _ hc => .inl hc, fun _ _ => rfl, hm.lt⟩
  have hrep' := hlow _ hext fun c hc => .inr hc
  have hbO' : ∀ b0 o0, l = some (b0, o0) → b0 ∉ O' ∧ b0 ∉ R := fun b0 o0 hb0 =>
    ⟨fun hc => (hl0 b0 o0 hb0).2.2.1 (hperm.mem_iff.2 (List.mem_append_left _ hc)), fun hc => (hl0 b0 o0 hb0).2.2.1 (hperm.mem_iff.2 (List.mem_append_right _ hc))⟩
  obtain ⟨Or, Oc, hw, hor, hndo, hrc⟩ := hrep'.wand (List.nodup_append.1 hndp).1 hle' hp hg (fun b0 o0 hb0 => (hbO' b0 o0 hb0).1) fun b0 o0 hb0 => by
    obtain ⟨rfl, ⟨el, h1⟩, _⟩ := hl0 b0 o0 hb0
    exact ⟨at_heap h1, _, el, h1, Nat.zero_le _⟩
  have hfo : ∀ c ∈ O', ¬ (F c ∨ c ∈ R) := fun c hc hF => by
    rcases hF with hF | hF
    · exact (hf.own V c (hO' c hc)).2.2 hF
    · exact (List.nodup_append.1 hndp).2.2 c hc c hF rfl
  have hOtR : ∀ c ∈ Ot, c ∉ O V := fun c hc => (hft c hc).2.2.2 V
  have hftm : Free w0 w (fun c => F c ∨ c ∈ R) (fun u => if u = V then [] else O u) Ot := fun c hc => by
    obtain ⟨h1, h2, h3, h4⟩ := hft c hc
    refine ⟨h1, h2, fun hF => ?_, fun u => ?_⟩
    · rcases hF with hF | hF
      · exact h3 hF
      · exact hOtR c hc (hR c hF)
    · simp only []
      split
      · simp
      · exact h4 u
  have hrt := hr.mono hext fun c _ => BSame.of_heap rfl
  obtain ⟨w1, F1, csn, On, cur, el, hrun, hf1, q1, q2, q3, q4, q5, q6, q7, q8, q9, q10, q11, q12, q13, q14⟩ := wand_store hm hw hrep.length hndo
    (fun c hc => by
      obtain ⟨h1, h2, h3⟩ := hf.own V c (hO' c (hor c hc))
      exact ⟨h1, h2, hfo c (hor c hc), hnot c (hO' c (hor c hc))⟩)
    (fun b0 o0 hb0 => by
      obtain ⟨h0, hel, h1, h2⟩ := hl0 b0 o0 hb0
      obtain ⟨g1, g2, g3⟩ := hf.own V b0 h2
      exact ⟨h0, hel, fun hc => (hbO' b0 o0 hb0).1 (hor b0 hc), g1, fun hF => hF.elim g3 (hbO' b0 o0 hb0).2, hnot b0 h2⟩)
    hg htt hput hv hrt hndt hftm
    (fun c hc => ⟨fun hc' => hOtR c hc (hO' c (hor c hc')), fun o0 hb0 => hOtR c hc (hl0 c o0 hb0).2.2.2⟩) hn hp hok
  have hVN : V < N := by
    refine slot_lt hf.size ?_
    rcases hcase with ⟨_, h, _⟩ | ⟨b1, el1, _, h, _⟩
    · exact Rep.not_undef h hrep
    · rw [h]; simp [undef]
  have hVu : (fun u => if u = V then ([] : List Nat) else O u) V = [] := by simp
  -- what the slot holds now
  have hnew : ∃ Onw, SRep P G w1 F1 T ((E1.kill V).set V .dead).at (T.getD V undef) (mkRoot bx m' σ y) Onw ∧ Onw.Nodup ∧ ∀ c ∈ Onw, w0.heap.size ≤ c ∧ c < w1.heap.size ∧ ¬ F1 c ∧ ∀ u, u ≠ V → c ∉ (if u = V then [] else O u) := by
    rcases hcase with ⟨hl, hvs, rfl, hOV⟩ | ⟨b1, el1, rfl, hT, hb1, hl, hOV⟩
    · refine ⟨On, ⟨csn, by rw [q4 hl]; exact hvs, q1⟩, q2, fun c hc => ?_⟩
      obtain ⟨h1, h2, h3, h4⟩ := q3 c hc
      exact ⟨h1, h2, h3, fun u _ => h4 u⟩
    · obtain ⟨⟨el2, k1⟩, k2, k3⟩ := q5 b1 0 hl
      refine ⟨b1 :: On, ⟨b1, csn, el2, On, hT, k1, q1, rfl⟩, List.nodup_cons.2 ⟨k2, q2⟩, fun c hc => ?_⟩
      rcases List.mem_cons.1 hc with rfl | hc
      · have hcV : c ∈ O V := by rw [hOV]; exact List.mem_cons_self ..
        obtain ⟨g1, g2, g3⟩ := hf.own V c hcV
        exact ⟨g1, by rw [q6]; exact g2, k3, fun u _ => hnot c hcV u⟩
      · obtain ⟨h1, h2, h3, h4⟩ := q3 c hc
        exact ⟨h1, h2, h3, fun u _ => h4 u⟩
  obtain ⟨Onw, hs, hnd, hon⟩ := hnew
  have hfin := hf1.relay hs mkRoot_roots hVN hnd hon
  by_cases hfl : t.1.flat = true
  · rw [if_pos hfl]
    have hhdr : Hdr w w1 := by
      rw [q8]
      exact hdr_setRow q7 q9 q10 q11 (hr.flat_cells hfl) (by
        intro c hc
        refine hrc.flat_cells ?_ c hc
        rw [htt]; exact hfl)
    have hk1 : ∀ τ cs1 l1, RootAt w (E1.at V) (T.getD V undef) τ cs1 l1 → ∃ csn, RootAt w1 (mkRoot bx m' σ y) (T.getD V undef) τ csn l1 ∧ HdrEqs cs1 csn := by
      intro τ cs1 l1 hro
      rw [hV] at hro
      rcases hcase with ⟨hl, hvs, rfl, hOV⟩ | ⟨b1, el1, rfl, hT, hb1, hl, hOV⟩
      · obtain ⟨rfl, k1, rfl⟩ := hro
        exact ⟨cs1, ⟨rfl, k1, rfl⟩, HdrEqs.refl _⟩
      · obtain ⟨rfl, b2, el2, k1, k2, rfl⟩ := hro
        rw [hT] at k1
        simp only [Value.pointer.injEq, Option.some.injEq, Addr.mk.injEq, and_true] at k1
        subst k1
        rw [hb1] at k2
        simp only [Option.some.injEq, Obj.cells.injEq, and_true] at k2
        have hc : cs0 = cs1 := by simpa using congrArg Array.toList k2.1
        subst hc
        obtain ⟨⟨el3, j1⟩, j2, j3⟩ := q5 b1 0 hl
        obtain ⟨cs2, i1, i2⟩ := (at_heap hb1).hdr hhdr
        have : cs2 = csn := i1.unique (at_heap j1) (by rw [← i2.1, q1.length, hrep.length])
        subst this
        exact ⟨cs2, ⟨rfl, b1, el3, hT, j1, rfl⟩, i2⟩
    have hk2 : (∃ m σ x, E1.at V = .v m σ x) ∨ ∃ m σ x, E1.at V = .box m σ x := by
      rw [hV]; cases bx
      · exact .inl ⟨_, _, _, rfl⟩
      · exact .inr ⟨_, _, _, rfl⟩
    obtain ⟨O2, hO2⟩ := hf.unkill hfin hhdr hk1 hk2 mkRoot_roots
    exact ⟨w1, F1, O2, hrun, hO2⟩
  · rw [if_neg hfl]
    exact ⟨w1, F1, _, hrun, hfin⟩

/-- A hole stays where it is when something else is taken. -/
theorem takeV_hol {E : Env} {Tx : Option Ty} {r : RS} (hrt : r.rt = (roots r.s).map E.at) {n : Nat} {t : TV} {E' : Env} (hev : takeV E Tx r = some (n, t, E')) {V : Nat} {bx : Bool} {m : Nat} {σ : Ty} {x : σ.den} {p : List Step} (hE : E.at V = .hol bx m σ x p) :
    E'.at V = .hol bx m σ x p ∨ E'.at V = .dead := by
  have kill : ∀ W, ((E.kill W).set W .dead).at V = .hol bx m σ x p ∨ ((E.kill W).set W .dead).at V = .dead := by
    intro W
    rw [Env.at_set]
    split
    · exact .inr rfl
    · rw [Env.at_kill, hE]; left; simp [rooted, roots]
  have hole : ∀ bx' W q s, E.at W ≠ .hol bx m σ x p → ((E.hole bx' W q).set W s).at V = .hol bx m σ x p := by
    intro bx' W q s hW
    have hne : V ≠ W := fun hc => hW (hc ▸ hE)
    rw [Env.at_set, if_neg hne, Env.at_hole, hE]
    simp [holeS, rooted, roots]
  unfold takeV at hev
  split at hev
  · split at hev
    · simp only [Option.some.injEq, Prod.mk.injEq] at hev; obtain ⟨rfl, rfl, rfl⟩ := hev; exact .inl hE
    · simp at hev
  · split at hev
    · simp only [Option.some.injEq, Prod.mk.injEq] at hev; obtain ⟨rfl, rfl, rfl⟩ := hev; exact .inl hE
    · simp at hev
  · split at hev
    · simp only [Option.some.injEq, Prod.mk.injEq] at hev; obtain ⟨rfl, rfl, rfl⟩ := hev; exact .inl hE
    · split at hev
      · simp only [Option.some.injEq, Prod.mk.injEq] at hev; obtain ⟨rfl, rfl, rfl⟩ := hev; exact .inl hE
      · simp only [Option.some.injEq, Prod.mk.injEq] at hev; obtain ⟨rfl, rfl, rfl⟩ := hev; exact kill _
  · simp only [Option.some.injEq, Prod.mk.injEq] at hev; obtain ⟨rfl, rfl, rfl⟩ := hev; exact kill _
  · simp only [roots, List.map_cons, List.map_nil, List.cons.injEq, and_true] at hrt
    split at hev
    · split at hev
      · simp only [Option.some.injEq, Prod.mk.injEq] at hev; obtain ⟨rfl, rfl, rfl⟩ := hev; exact .inl (hole _ _ _ _ (by rw [← hrt]; simp))
      · simp at hev
    · simp at hev
  · simp only [roots, List.map_cons, List.map_nil, List.cons.injEq, and_true] at hrt
    split at hev
    · split at hev
      · simp only [Option.some.injEq, Prod.mk.injEq] at hev; obtain ⟨rfl, rfl, rfl⟩ := hev; exact .inl (hole _ _ _ _ (by rw [← hrt]; simp))
      · simp at hev
    · simp at hev
  · split at hev
    · simp at hev
    · simp only [Option.some.injEq, Prod.mk.injEq] at hev; obtain ⟨rfl, rfl, rfl⟩ := hev; exact kill _
  · rename_i to W i rs
    simp only [roots, List.map_cons, List.map_nil, List.cons.injEq, and_true] at hrt
    split at hev
    · simp only [Option.some.injEq, Prod.mk.injEq] at hev
      obtain ⟨rfl, rfl, rfl⟩ := hev
      have hne : V ≠ W := fun hc => by rw [← hc, hE] at hrt; simp at hrt
      rw [Env.at_set, if_neg hne]
      exact .inl hE
    · simp at hev
  · simp at hev

theorem evStore_sound {E E' : Env} (h : Fr P N w0 F0 G E.at a.tmps w F O) {tys : Tys} (ht : tys.ok P = true) {Ti : TypeId} {x r : RS} {va vx : Value} (ha : RSOk P G w F E.at a O x va) (hr : RSOk P G w F E.at a O r vx) {lp : List Prop}
    (hev : evStore tys E Ti x r = some (E', lp)) (hlp : ∀ q ∈ lp, q) : ∃ w1 F1 O1, (Instr.storeAt Ti va vx).run P w = .ok () w1 ∧ Fr P N w0 F0 G E'.at a.tmps w1 F1 O1 := by
  unfold evStore at hev
  split at hev
  · simp at hev
  rename_i τ hT
  have hok := tyAt_ok ht hT
  split at hev
  · simp at hev
  rename_i n t E1 htk
  split at hev
  rotate_left
  · simp at hev
  rename_i htτ
  obtain ⟨O1, Ot, cs, hf, hv, hrp, hnd, ho, _⟩ := take_sound h hr htk
  have hat := takeV_at htk
  subst htτ
  split at hev
  · -- a variable, whole
    rename_i V n0 τ' x' rt
    split at hev
    rotate_left
    · simp at hev
    split at hev
    rotate_left
    · simp at hev
    rename_i n1 σ x1 hV1
    split at hev
    rotate_left
    · simp at hev
    rename_i hσ
    subst hσ
    simp only [Option.some.injEq, Prod.mk.injEq] at hev
    obtain ⟨rfl, rfl⟩ := hev
    obtain ⟨_, hva⟩ := ha.slot V rfl
    have hVr := hf.rep V
    rw [hV1] at hVr
    obtain ⟨b, cs0, el, Ox, hT0, hb, hrep, hOV⟩ := hVr
    rw [hva, hT0]
    have hlen : cs.length = cs0.length := by rw [hrp.length, hrep.length]
    have hrun := run_storeAt (o := 0) hok hb hv hrp (by simp [hrep.length])
    have hrow : (cs0.toArray.toList.take 0 ++ cs ++ cs0.toArray.toList.drop (0 + cs.length)) = cs := by simp [hlen]
    rw [hrow] at hrun
    have hbV : b ∈ O1 V := by rw [hOV]; exact List.mem_cons_self ..
    obtain ⟨g1, g2, g3⟩ := hf.own V b hbV
    have hk := hf.turn (V := V) (s := .dead) (On := []) rfl rfl ⟨List.nodup_nil, fun b hb => by cases hb⟩
    rw [← Env.kill_set] at hk
    have hnot : ∀ u, b ∉ (if u = V then [] else O1 u) := fun u => by
      split
      · simp
      · rename_i hu; exact hf.apart V u (Ne.symm hu) b hbV
    have hsame : ∀ c, c ≠ b → (w.setRow b cs.toArray).heap[c]? = w.heap[c]? := fun c hc => setRow_heap_other hc
    have hw := hk.world (w1 := w.setRow b cs.toArray) (Below.setRow hk.below g1 _) (by rw [setRow_size]; exact Nat.le_refl _) (fun c hc => hsame c fun hcb => g3 (hcb ▸ hc)) (fun u c hc => hsame c fun hcb => hnot u (hcb ▸ hc))
    have hbt : b ∉ Ot := fun hc => (ho b hc).2.2.2 V hbV
    have hext : Ext w F (w.setRow b cs.toArray) F := ⟨fun _ hc => hc, fun c hc => hsame c fun hcb => g3 (hcb ▸ hc), hw.lt⟩
    have hrp1 := hrp.mono hext fun c hc => BSame.of_heap (hsame c fun hcb => hbt (hcb ▸ hc))
    have hfin := hw.relay (s := .box n t.1 t.2) (On := b :: Ot) ⟨b, cs, el, Ot, hT0, setRow_heap w b _ _ el (0, 0) hb, hrp1, rfl⟩ rfl (slot_lt hf.size (by rw [hT0]; simp [undef])) (List.nodup_cons.2 ⟨hbt, hnd⟩) fun c hc => by
      rcases List.mem_cons.1 hc with rfl | hc
      · exact ⟨g1, by rw [setRow_size]; exact g2, g3, fun u _ => hnot u⟩
      · obtain ⟨h1, h2, h3, h4⟩ := ho c hc
        refine ⟨h1, by rw [setRow_size]; exact h2, h3, fun u hu => ?_⟩
        simp only [hu, if_false]
        exact h4 u
    exact ⟨_, F, _, hrun, hfin⟩
  · -- a place in a slot
    rename_i V p rt
    split at hev
    rotate_left
    · simp at hev
    obtain ⟨⟨Or, ⟨_, b, o, τ', cs', hva, hpl⟩, _⟩, _, _⟩ := ha
    subst hva
    have hfree : Free w0 w F O1 Ot := ho
    split at hev
    · rename_i m σ x0 hV1
      split at hev
      rotate_left
      · simp at hev
      rename_i t' y hg hput
      split at hev
      rotate_left
      · simp at hev
      rename_i hc
      simp only [Bool.and_eq_true, decide_eq_true_eq] at hc
      simp only [Option.some.injEq, Prod.mk.injEq] at hev
      obtain ⟨rfl, rfl⟩ := hev
      have hVE := (hat V).1 _ _ _ hV1
      rw [hVE, ← hV1] at hpl
      exact store_ref (bx := false) hf hV1 hpl hg hc.1.1 hput hv hrp hnd hfree hok (Nat.le_of_ble_eq_true hc.1.2)
    · rename_i m σ x0 hV1
      split at hev
      rotate_left
      · simp at hev
      rename_i t' y hg hput
      split at hev
      rotate_left
      · simp at hev
      rename_i hc
      simp only [Bool.and_eq_true, decide_eq_true_eq] at hc
      simp only [Option.some.injEq, Prod.mk.injEq] at hev
      obtain ⟨rfl, rfl⟩ := hev
      have hVE := (hat V).2 _ _ _ hV1
      rw [hVE, ← hV1] at hpl
      exact store_ref (bx := true) hf hV1 hpl hg hc.1 hput hv hrp hnd hfree hok (Nat.le_of_ble_eq_true hc.2)
    · simp at hev
  · -- a hole
    rename_i V l rt
    split at hev
    rotate_left
    · simp at hev
    rename_i bx m σ x0 p hV1
    split at hev
    rotate_left
    · simp at hev
    rename_i t' y hg hput
    split at hev
    rotate_left
    · simp at hev
    rename_i hc
    simp only [Bool.and_eq_true, decide_eq_true_eq] at hc
    simp only [Option.some.injEq, Prod.mk.injEq] at hev
    obtain ⟨rfl, rfl⟩ := hev
    obtain ⟨⟨Or, ⟨_, hh⟩, _⟩, _, _⟩ := ha
    obtain ⟨bx1, n1, σ1, x1, p1, b, o, τ', cs0, cs', l', hVE, hva, hrh, hpl⟩ := hh (AllP_iff.2 hlp)
    subst hva
    have heq := takeV_hol hr.rt htk hVE
    rw [hV1] at heq
    rcases heq with heq | heq
    rotate_left
    · simp at heq
    injection heq with e1 e2 e3 e4 e5
    subst e1; subst e2; subst e3; subst e5
    have e4' := eq_of_heq e4
    subst e4'
    have hVr := hf.rep V
    rw [hV1] at hVr
    have hk := hf.turn (V := V) (s := .dead) (On := []) rfl rfl ⟨List.nodup_nil, fun b hb => by cases hb⟩
    rw [← Env.kill_set] at hk
    have hnot : ∀ c ∈ O1 V, ∀ u, c ∉ (if u = V then [] else O1 u) := fun c hc u => by
      split
      · simp
      · rename_i hu; exact hf.apart V u (Ne.symm hu) c hc
    have hOtV : ∀ c ∈ Ot, c ∉ O1 V := fun c hc => (ho c hc).2.2.2 V
    have hftm : Free w0 w F (fun u => if u = V then [] else O1 u) Ot := fun c hc => by
      obtain ⟨h1, h2, h3, h4⟩ := ho c hc
      refine ⟨h1, h2, h3, fun u => ?_⟩
      simp only []
      split
      · simp
      · exact h4 u
    have hn : t.1.flat = true ∨ m - idxs p ≤ n := .inr (Nat.le_of_ble_eq_true hc.2)
    cases bx with
    | false =>
      obtain ⟨cs1, k1, k2, k3, hw⟩ := hVr
      obtain ⟨hvs, rfl⟩ := hrh
      obtain rfl := hvs.inj k1
      obtain ⟨w1, F1, csn, On, cur, el, hrun, hf1, q1, q2, q3, q4, q5, q6, _⟩ := wand_store hk hw k2 (hf.nodup V) (fun c hc => by
          obtain ⟨h1, h2, h3⟩ := hf.own V c hc
          exact ⟨h1, h2, h3, hnot c hc⟩) (fun b0 o0 hb0 => by simp at hb0) hg hc.1 hput hv hrp hnd hftm (fun c hc => ⟨hOtV c hc, fun o0 hb0 => by simp at hb0⟩) hn hpl hok
      have hvu : a.tmps.getD V undef ≠ undef := by
        have q1' := q1
        rw [q4 rfl] at q1'
        exact Rep.not_undef hvs q1'
      exact ⟨w1, F1, _, hrun, hf1.relay (s := .v m σ y) ⟨csn, by rw [q4 rfl]; exact hvs, q1⟩ rfl (slot_lt hf.size hvu) q2 fun c hc => by
        obtain ⟨h1, h2, h3, h4⟩ := q3 c hc
        exact ⟨h1, h2, h3, fun u _ => h4 u⟩⟩
    | true =>
      obtain ⟨b1, cs1, el1, Ox, k1, k2, k3, hw, hOV⟩ := hVr
      obtain ⟨b2, el2, j1, j2, rfl⟩ := hrh
      rw [k1] at j1
      simp only [Value.pointer.injEq, Option.some.injEq, Addr.mk.injEq, and_true] at j1
      subst j1
      rw [k2] at j2
      simp only [Option.some.injEq, Obj.cells.injEq, and_true] at j2
      have hc' : cs1 = cs0 := by simpa using congrArg Array.toList j2.1
      subst hc'
      have hndV := hf.nodup V
      rw [hOV, List.nodup_cons] at hndV
      have hOxV : ∀ c ∈ Ox, c ∈ O1 V := fun c hc => by rw [hOV]; exact List.mem_cons_of_mem _ hc
      have hb1V : b1 ∈ O1 V := by rw [hOV]; exact List.mem_cons_self ..
      obtain ⟨w1, F1, csn, On, cur, el, hrun, hf1, q1, q2, q3, q4, q5, q6, _⟩ := wand_store hk hw k3 hndV.2 (fun c hc => by
          obtain ⟨h1, h2, h3⟩ := hf.own V c (hOxV c hc)
          exact ⟨h1, h2, h3, hnot c (hOxV c hc)⟩) (fun b0 o0 hb0 => by
          simp only [Option.some.injEq, Prod.mk.injEq] at hb0
          obtain ⟨rfl, rfl⟩ := hb0
          obtain ⟨h1, h2, h3⟩ := hf.own V b1 hb1V
          exact ⟨rfl, ⟨el1, k2⟩, hndV.1, h1, h3, hnot b1 hb1V⟩) hg hc.1 hput hv hrp hnd hftm (fun c hc => ⟨fun hc' => hOtV c hc (hOxV c hc'), fun o0 hb0 => by
          simp only [Option.some.injEq, Prod.mk.injEq] at hb0
          exact hOtV c hc (hb0.1 ▸ hb1V)⟩) hn hpl hok
      obtain ⟨⟨el3, i1⟩, i2, i3⟩ := q5 b1 0 rfl
      exact ⟨w1, F1, _, hrun, hf1.relay (s := .box m σ y) (On := b1 :: On) ⟨b1, csn, el3, On, k1, i1, q1, rfl⟩ rfl (slot_lt hf.size (by rw [k1]; simp [undef])) (List.nodup_cons.2 ⟨i2, q2⟩) fun c hc => by
        rcases List.mem_cons.1 hc with rfl | hc
        · obtain ⟨h1, h2, h3⟩ := hf.own V c hb1V
          exact ⟨h1, by rw [q6]; exact h2, i3, fun u _ => hnot c hb1V u⟩
        · obtain ⟨h1, h2, h3, h4⟩ := q3 c hc
          exact ⟨h1, h2, h3, fun u _ => h4 u⟩⟩
  · simp at hev
end
end Go.Tom
