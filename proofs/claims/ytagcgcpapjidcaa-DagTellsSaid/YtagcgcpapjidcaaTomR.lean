/- The operations that write: assignments, variables, stores. -/
import Derived.Test.YtagcgcpapjidcaaTomQ
set_option linter.unusedVariables false
set_option linter.unusedSimpArgs false
namespace Go.Tom
open Go

section
variable {P : Program} {N : Nat} {w0 w : World} {F0 F : Nat → Prop} {G : Nat × Bool → Bool} {e : Nat → S} {a : Act} {T : Array Value} {O : Nat → List Nat}

/-- THE FRAME STAYS where other blocks are written. -/
theorem Fr.world (h : Fr P N w0 F0 G e T w F O) {w1 : World} (hb : RowKit.Below w0.heap.size w0 w1) (hsz : w.heap.size ≤ w1.heap.size) (hF : ∀ b, F b → w1.heap[b]? = w.heap[b]?) (hO : ∀ t, ∀ b ∈ O t, w1.heap[b]? = w.heap[b]?) : Fr P N w0 F0 G e T w1 F O := by
  have he : Ext w F w1 F := ⟨fun _ hb => hb, hF, fun b hb => by have := h.lt b hb; omega⟩
  exact ⟨h.size, hb, h.sub, he.lt, h.old, fun t => (h.rep t).keep he hO h.rep (hO t), h.nodup, fun t b hb => by obtain ⟨h1, h2, h3⟩ := h.own t b hb; exact ⟨h1, by omega, h3⟩, h.apart⟩

/-- Blocks that nobody owns may be kept from now on. -/
theorem Fr.more (h : Fr P N w0 F0 G e T w F O) {R : List Nat} (hR : ∀ b ∈ R, w0.heap.size ≤ b ∧ b < w.heap.size ∧ ∀ u, b ∉ O u) : Fr P N w0 F0 G e T w (fun b => F b ∨ b ∈ R) O := by
  have he : Ext w F w (fun b => F b ∨ b ∈ R) := ⟨fun _ hb => .inl hb, fun _ _ => rfl, fun b hb => by
    rcases hb with hb | hb
    · exact h.lt b hb
    · exact (hR b hb).2.1⟩
  refine ⟨h.size, h.below, fun b hb => .inl (h.sub b hb), he.lt, fun b hb hlt => ?_, fun t => (h.rep t).keep he (fun _ _ _ => rfl) h.rep (fun _ _ => rfl), h.nodup, fun t b hb => ?_, h.apart⟩
  · rcases hb with hb | hb
    · exact h.old b hb hlt
    · have := (hR b hb).1; omega
  · obtain ⟨h1, h2, h3⟩ := h.own t b hb
    refine ⟨h1, h2, fun hc => ?_⟩
    rcases hc with hc | hc
    · exact h3 hc
    · exact (hR b hc).2.2 t hb

theorem setIfInBounds_self {T : Array Value} {d : Nat} : T.setIfInBounds d (T.getD d undef) = T := by
  apply Array.ext_getElem?
  intro i
  rw [Array.getElem?_setIfInBounds]
  split
  · rename_i hi
    subst hi
    split
    · rename_i hlt
      simp [Array.getD, hlt]
    · rename_i hlt
      simp at hlt
      simp [hlt]
  · rfl

theorem kill_free {V t : Nat} (E : Nat → S) : V ∉ roots (if rooted V (E t) then .dead else E t) := by
  split
  · simp [roots]
  · rename_i h; exact fun hc => h (rooted_iff.2 hc)

theorem put_tmps (d : Nat) (v : Value) : (a.put (some d) v).tmps = a.tmps.setIfInBounds d v := rfl

/-- What has been taken is laid into slot d. -/
theorem Taken.lay {E' : Env} {n : Nat} {t : TV} {v : Value} (h : Taken P N w0 F0 G T w F O E' n t v) {d : Nat} (hd : d < N) :
    ∃ O', Fr P N w0 F0 G ((E'.kill d).set d (.v (if t.1.flat then 0 else n) t.1 t.2)).at (T.setIfInBounds d v) w F O' := by
  obtain ⟨O', Ot, cs, hf, hv, hr, hnd, ho, _⟩ := h
  have hk := hf.kill d
  have hE : ((E'.kill d).set d (.v (if t.1.flat then 0 else n) t.1 t.2)).at = fun u => if u = d then .v (if t.1.flat then 0 else n) t.1 t.2 else (if rooted d (E'.at u) then .dead else E'.at u) := by
    funext u; rw [Env.at_set]; split
    · rfl
    · exact Env.at_kill E' d u
  rw [hE]
  by_cases hfl : t.1.flat = true
  · simp only [hfl, if_true]
    exact ⟨_, hk.lay (On := []) hd (fun u => kill_free E'.at) ⟨cs, hv, (hr.flat hfl).2 _ _ _⟩ (by simp [roots]) List.nodup_nil (fun b hb => by cases hb)⟩
  · simp only [hfl, Bool.false_eq_true, if_false]
    exact ⟨_, hk.lay (On := Ot) hd (fun u => kill_free E'.at) ⟨cs, hv, hr⟩ (by simp [roots]) hnd fun b hb => by
      obtain ⟨h1, h2, h3, h4⟩ := ho b hb
      exact ⟨h1, h2, h3, fun u _ => h4 u⟩⟩

theorem evAssign_sound {E E' : Env} (h : Fr P N w0 F0 G E.at a.tmps w F O) {tys : Tys} {d : Nat} (hd : d < N) {ty : TypeId} {r : RS} {v : Value} (hr : RSOk P G w F E.at a O r v) (hev : evAssign tys E d ty r = some E') :
    ∃ O', Fr P N w0 F0 G E'.at (a.tmps.setIfInBounds d v) w F O' := by
  unfold evAssign at hev
  split at hev
  · rename_i s hs
    split at hev
    · simp at hev
    · rename_i hrd
      simp only [Option.some.injEq] at hev
      subst hev
      obtain ⟨⟨Or, hrep, hOr⟩, hrt, hslot⟩ := hr
      have hss : r.s = s ∧ solid s = false := by
        obtain ⟨rt, rs, rr⟩ := r
        cases rs <;> simp only [copyS, reduceCtorEq, Option.some.injEq] at hs
        all_goals (subst hs; exact ⟨rfl, rfl⟩)
      rw [hss.1] at hrep
      have hO : Or = [] := by
        obtain ⟨rt, rs, rr⟩ := r
        cases rs <;> simp only [copyS, reduceCtorEq, Option.some.injEq] at hs
        all_goals (subst hs; exact hrep.1)
      subst hO
      have hk := h.kill d
      have hE : ((E.kill d).set d s).at = fun u => if u = d then s else (if rooted d (E.at u) then .dead else E.at u) := by
        funext u; rw [Env.at_set]; split
        · rfl
        · exact Env.at_kill E d u
      rw [hE]
      have hnr : d ∉ roots s := fun hc => hrd (rooted_iff.2 hc)
      refine ⟨_, hk.lay (On := []) hd (fun u => kill_free E.at) (hrep.slot fun W hW => ⟨rfl, fun hsol => ?_⟩) hnr List.nodup_nil (fun b hb => by cases hb)⟩
      simp [rooted, solid_roots hsol]
  · split at hev
    · rename_i n t E1 ht
      simp only [Option.some.injEq] at hev
      subst hev
      exact (take_sound h hr ht).lay hd
    · simp at hev

theorem Rep.oneCell : ∀ {τ : Ty} {n : Nat} {x : τ.den} {cs : List Value} {Ox : List Nat}, Rep P τ n w F x cs Ox → ∀ c ∈ cs, c.oneCell' = true := by
  intro τ
  induction τ with
  | prod b1 b2 ih1 ih2 =>
    intro n x cs Ox h c hc
    obtain ⟨c1, c2, O1, O2, rfl, rfl, _, _, r1, r2⟩ := h
    rcases List.mem_append.1 hc with hc | hc
    · exact ih1 r1 c hc
    · exact ih2 r2 c hc
  | st b ih => intro n x cs Ox h; exact ih h
  | int k => intro n x cs Ox h c hc; rw [h.1, List.mem_singleton] at hc; subst hc; rfl
  | bool => intro n x cs Ox h c hc; rw [h.1, List.mem_singleton] at hc; subst hc; rfl
  | str => intro n x cs Ox h c hc; rw [h.1, List.mem_singleton] at hc; subst hc; rfl
  | slice e1 _ => intro n x cs Ox h c hc; obtain ⟨ad, cap, css, Os, hcs, _⟩ := h; rw [hcs, List.mem_singleton] at hc; subst hc; rfl
  | cptr e1 _ => intro n x cs Ox h c hc; obtain ⟨b, o, cs', hcs, _⟩ := h; rw [hcs, List.mem_singleton] at hc; subst hc; rfl
  | fn e1 r _ _ => intro n x cs Ox h c hc; obtain ⟨_, f, fi, ca, hcs, _⟩ := h; rw [hcs, List.mem_singleton] at hc; subst hc; rfl

theorem setRow_heap_other {b c : Nat} {row : Array Value} (h : c ≠ b) : (w.setRow b row).heap[c]? = w.heap[c]? := by
  simp only [World.setRow, Array.getElem?_modify]
  rw [if_neg (Ne.symm h)]

theorem setRow_size {b : Nat} {row : Array Value} : (w.setRow b row).heap.size = w.heap.size := by simp [World.setRow]

theorem Below.setRow {B : Nat} {w1 : World} (h : RowKit.Below B w1 w) {b : Nat} (hb : B ≤ b) (row : Array Value) : RowKit.Below B w1 (w.setRow b row) :=
  h.trans ⟨rfl, rfl, rfl, by rw [setRow_size]; exact Nat.le_refl _, fun k hk => setRow_heap_other (by omega)⟩

/-- Cells written into a block of the frame's own. -/
theorem run_storeAt {Ti : TypeId} {τ : Ty} (hok : TyOk P Ti τ) {b o : Nat} {cur : Array Value} {el : TypeId} (hb : w.heap[b]? = some (.cells cur el (0, 0))) {v : Value} {cs : List Value} {n : Nat} {x : τ.den} {Ox : List Nat} (hv : VS τ v cs) (hr : Rep P τ n w F x cs Ox) (hle : o + τ.sz ≤ cur.size) :
    (Instr.storeAt Ti (.pointer (some ⟨b, o, none⟩)) v).run P w = .ok () (w.setRow b (cur.toList.take o ++ cs ++ cur.toList.drop (o + cs.length)).toArray) := by
  have hc := hv.cells hr
  have hsz : v.cells.size = τ.sz := by rw [← Array.length_toList, hc, hr.length]
  have hl := hr.length
  have := run_storeCells_at P b o el cs 0 cur w hb (by omega) hr.oneCell
  simp only [Nat.add_zero] at this
  simp only [Instr.storeAt, Instr.sureAddr, Sem.run_bind, Sem.run_pure, Result.andThen_ok, storeVar, hok.size, hsz, hc, ne_eq, not_true_eq_false, if_false]
  exact this

theorem chg_setRow {b o : Nat} {cur : Array Value} {el : TypeId} (hb : w.heap[b]? = some (.cells cur el (0, 0))) {cs : List Value} (hle : o + cs.length ≤ cur.size) (c : Nat) :
    ChgAt w (w.setRow b (cur.toList.take o ++ cs ++ cur.toList.drop (o + cs.length)).toArray) c (some (b, o)) cs := by
  have hh := setRow_heap w b cur (cur.toList.take o ++ cs ++ cur.toList.drop (o + cs.length)).toArray el (0, 0) hb
  have hmin : min o cur.size = o := by omega
  by_cases hc : c = b
  · subst hc
    refine ⟨fun n ⟨c1, el1, k1, k2⟩ => ?_, fun j hj => ?_, fun o' ho' => ?_⟩
    · rw [hb] at k1
      simp only [Option.some.injEq, Obj.cells.injEq] at k1
      obtain ⟨rfl, rfl, _⟩ := k1
      exact ⟨_, _, hh, by simp [hmin]; omega⟩
    · have hj' := hj o rfl
      simp only [World.cell?, hh, hb]
      simp only [Option.isSome_none, Bool.false_eq_true, if_false]
      rcases hj' with hj' | hj'
      · simp only [List.getElem?_toArray]
        rw [List.append_assoc, List.getElem?_append_left (by simp; omega), List.getElem?_take_of_lt hj']
        simp
      · simp only [List.getElem?_toArray]
        rw [List.getElem?_append_right (by simp; omega)]
        simp only [List.length_append, List.length_take, Array.length_toList, hmin, List.getElem?_drop]
        rw [show o + cs.length + (j - (o + cs.length)) = j from by omega]
        simp
    · simp only [Option.some.injEq, Prod.mk.injEq, true_and] at ho'
      subst ho'
      intro j hj
      simp only [World.cell?, hh]
      simp only [Option.isSome_none, Bool.false_eq_true, if_false, List.getElem?_toArray]
      rw [List.append_assoc, List.getElem?_append_right (by simp; omega)]
      simp only [List.length_take, Array.length_toList, hmin]
      rw [show o + j - o = j from by omega, List.getElem?_append_left hj]
      simp
  · have hs := BSame.of_heap (setRow_heap_other (w := w) (row := (cur.toList.take o ++ cs ++ cur.toList.drop (o + cs.length)).toArray) hc)
    exact ⟨hs.own, fun j _ => hs.cell j, fun o' ho' => by simp only [Option.some.injEq, Prod.mk.injEq] at ho'; exact absurd ho'.1.symm hc⟩

/-- A slot's value is said anew, in the world behind a write into its own blocks. -/
theorem Fr.relay {E' : Env} {V : Nat} {s : S} {On : List Nat} (h : Fr P N w0 F0 G ((E'.kill V).set V .dead).at T w F O) (hs : SRep P G w F T ((E'.kill V).set V .dead).at (T.getD V undef) s On) (hV : roots s = []) (hVN : V < N) (hnd : On.Nodup)
    (hon : ∀ b ∈ On, w0.heap.size ≤ b ∧ b < w.heap.size ∧ ¬ F b ∧ ∀ u, u ≠ V → b ∉ O u) : Fr P N w0 F0 G ((E'.kill V).set V s).at T w F (fun t => if t = V then On else O t) := by
  have := h.lay (d := V) (s := s) (v := T.getD V undef) hVN (fun t => by
    rw [Env.at_set]
    split
    · simp [roots]
    · rw [Env.at_kill]; exact kill_free E'.at) hs (by rw [hV]; simp) hnd hon
  rw [setIfInBounds_self] at this
  have hE : (fun t => if t = V then s else ((E'.kill V).set V .dead).at t) = ((E'.kill V).set V s).at := by
    funext u
    simp only [Env.at_set]
    split <;> rfl
  rw [hE] at this
  exact this

theorem evBox_sound {E E' : Env} (h : Fr P N w0 F0 G E.at a.tmps w F O) {tys : Tys} (ht : tys.ok P = true) {d : Nat} (hd : d < N) {Ti : TypeId} {r : RS} {v : Value} (hr : RSOk P G w F E.at a O r v) (hev : evBox tys E d Ti r = some E') :
    ∃ w1 F1 O1, (Instr.box Ti v).run P w = .ok (.pointer (some ⟨w.heap.size, 0, none⟩)) w1 ∧ Fr P N w0 F0 G E'.at (a.tmps.setIfInBounds d (.pointer (some ⟨w.heap.size, 0, none⟩))) w1 F1 O1 := by
  unfold evBox at hev
  split at hev
  · simp at hev
  · rename_i τ hT
    split at hev
    · rename_i n t E1 htk
      split at hev
      · rename_i hc
        simp only [Option.some.injEq] at hev
        subst hev
        obtain ⟨O', Ot, cs, hf, hv, hrp, hnd, ho, _⟩ := take_sound h hr htk
        have hcs := hv.cells hrp
        have hcs' : v.cells = cs.toArray := by apply Array.toList_inj.1; simpa using hcs
        refine ⟨w.alloc (.cells cs.toArray Ti), F, (fun u => if u = d then w.heap.size :: Ot else O' u), by simp [Instr.box, newVar, newRow, hcs'], ?_⟩
        have hold : Older w (w.alloc (.cells cs.toArray Ti)) := fun b hb => RowKit.Below.heap_alloc w _ b hb
        have hlt : ∀ u, ∀ b ∈ O' u, b < w.heap.size := fun u b hb => (hf.own u b hb).2.1
        have hw := hf.world (w1 := w.alloc (.cells cs.toArray Ti)) (hf.below.alloc hf.below.size _) (by rw [World.size_alloc]; omega) (fun b hb => hold b (hf.lt b hb)) (fun u b hb => hold b (hlt u b hb))
        have hk := hw.kill d
        have hE : ((E1.kill d).set d (.box n t.1 t.2)).at = fun u => if u = d then .box n t.1 t.2 else (if rooted d (E1.at u) then .dead else E1.at u) := by
          funext u; rw [Env.at_set]; split
          · rfl
          · exact Env.at_kill E1 d u
        rw [hE]
        have hext : Ext w F (w.alloc (.cells cs.toArray Ti)) F := ⟨fun _ hb => hb, fun b hb => hold b (hf.lt b hb), hw.lt⟩
        refine hk.lay (On := w.heap.size :: Ot) hd (fun u => kill_free E1.at) ⟨w.heap.size, cs, Ti, Ot, rfl, alloc_heap, hrp.mono hext (fun b hb => hold.same (ho b hb).2.1), rfl⟩ (by simp [roots]) ?_ fun b hb => ?_
        · rw [List.nodup_cons]
          exact ⟨fun hc' => by have := (ho _ hc').2.1; omega, hnd⟩
        · rcases List.mem_cons.1 hb with rfl | hb
          · refine ⟨h.below.size, by rw [World.size_alloc]; omega, fun hF => by have := hf.lt _ hF; omega, fun u _ hc' => by have := hlt u _ hc'; omega⟩
          · obtain ⟨h1, h2, h3, h4⟩ := ho b hb
            exact ⟨h1, by rw [World.size_alloc]; omega, h3, fun u _ => h4 u⟩
      · simp at hev
    · simp at hev
end
end Go.Tom
