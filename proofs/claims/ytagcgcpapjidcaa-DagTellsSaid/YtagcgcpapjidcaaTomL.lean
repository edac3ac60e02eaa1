/- Each operation does what evalQ says: parts of slices, literals. -/
import Derived.Test.YtagcgcpapjidcaaTomK
set_option linter.unusedVariables false
set_option linter.unusedSimpArgs false
namespace Go.Tom
open Go

/-- Cells written one behind the other. -/
theorem foldl_seg : ∀ (vs : List Value) (cells : Array Value) (off k : Nat), off + k + vs.length ≤ cells.size →
    ((vs.zipIdx k).foldl (fun cs (q : Value × Nat) => cs.setIfInBounds (off + q.2) q.1) cells).toList = cells.toList.take (off + k) ++ vs ++ cells.toList.drop (off + k + vs.length)
  | [], cells, off, k, _ => by simp
  | v :: vs, cells, off, k, h => by
    simp only [List.zipIdx_cons, List.foldl_cons]
    rw [foldl_seg vs _ off (k + 1) (by simp at h ⊢; omega)]
    have e := list_seg_step cells.toList (off + k) v vs (by simp at h ⊢; omega)
    simpa [Array.toList_setIfInBounds, Nat.add_assoc] using e

theorem foldl_seg_size : ∀ (vs : List (Value × Nat)) (cells : Array Value) (off : Nat), (vs.foldl (fun cs (q : Value × Nat) => cs.setIfInBounds (off + q.2) q.1) cells).size = cells.size
  | [], _, _ => rfl
  | q :: vs, cells, off => by simp only [List.foldl_cons]; rw [foldl_seg_size vs]; simp

theorem fill_step {place : Nat → Option (Nat × Nat)} {cells : Array Value} {i off size : Nat} {v : Value} {rest : List (Nat × Value)} (hp : place i = some (off, size)) (hs : v.cells.size = size) (ho : off + size ≤ cells.size) :
    ∃ c', Instr.fill place cells ((i, v) :: rest) = Instr.fill place c' rest ∧ c'.toList = cells.toList.take off ++ v.cells.toList ++ cells.toList.drop (off + size) := by
  refine ⟨_, by simp only [Instr.fill, hp]; rw [if_neg (by simp [hs]; omega)], ?_⟩
  have := foldl_seg v.cells.toList cells off 0 (by simp [hs]; omega)
  simp only [Nat.add_zero, Array.length_toList, hs] at this
  rw [← this]
  congr 1
  rw [← Array.foldl_toList, Array.toList_zipIdx]

section
variable {P : Program} {N : Nat} {w0 w : World} {F0 F : Nat → Prop} {G : Nat × Bool → Bool} {e : Nat → S} {a : Act} {O : Nat → List Nat}

/-- An operand that may be left out. -/
def OptOk (P : Program) (G : Nat × Bool → Bool) (w : World) (F : Nat → Prop) (e : Nat → S) (a : Act) (O : Nat → List Nat) : Option RS → Option Value → Prop
  | none, v => v = none
  | some r, v => ∃ x, v = some x ∧ RSOk P G w F e a O r x

theorem boundOr_ok (h : Fr P N w0 F0 G e a.tmps w F O) {r : Option RS} {v : Option Value} (hr : OptOk P G w F e a O r v) {d l : Int} (hb : boundOr d r = some l) : (v = none ∧ l = d) ∨ ∃ k, v = some (.int k l) := by
  cases r with
  | none =>
    simp only [boundOr, Option.some.injEq] at hb
    exact .inl ⟨hr, hb.symm⟩
  | some r =>
    obtain ⟨x, rfl, hx⟩ := hr
    simp only [boundOr] at hb
    split at hb
    · rename_i k i hk
      simp only [Option.some.injEq] at hb
      subst hb
      exact .inr ⟨k, by rw [rdInt_ok h hx hk]⟩
    · simp at hb

theorem run_sliceBound {k : IntKind} {i : Int} {y : Nat} {code : BoundsCode} (h0 : 0 ≤ i) (h1 : i ≤ (y : Int)) : (Instr.sliceBound (.int k i) y code).run P w = .ok i.toNat w := by
  simp [Instr.sliceBound, asIntOf, h0, h1]

theorem run_slice {T : TypeId} {e1 : Ty} (h : TyOk P T (.slice e1)) {ad : Option Addr} {len cap : Nat} {lo hi : Option Value} {l r : Int} (hl : (lo = none ∧ l = 0) ∨ ∃ k, lo = some (.int k l)) (hh : (hi = none ∧ r = (len : Int)) ∨ ∃ k, hi = some (.int k r))
    (h0 : 0 ≤ l) (h1 : l ≤ r) (h2 : r ≤ (len : Int)) (hc : len ≤ cap) :
    (Instr.sliceAt T (.slice ad len cap) lo hi none).run P w = .ok (.slice (if cap = l.toNat then ad else ad.map fun q => q.add (l.toNat * e1.sz)) (r - l).toNat (cap - l.toNat)) w := by
  obtain ⟨E, hu, hE⟩ := h.slice
  have hsub : r.toNat - l.toNat = (r - l).toNat := by omega
  have hb : (Instr.sliceBounds true len cap lo hi none).run P w = .ok (l.toNat, r.toNat, cap) w := by
    rcases hl with ⟨rfl, rfl⟩ | ⟨k, rfl⟩ <;> rcases hh with ⟨rfl, rfl⟩ | ⟨k', rfl⟩
    · simp [Instr.sliceBounds]
    · simp [Instr.sliceBounds, run_sliceBound (P := P) (w := w) (k := k') (y := cap) (by omega : 0 ≤ r) (by omega)]
    · simp [Instr.sliceBounds, run_sliceBound (P := P) (w := w) (k := k) (y := len) h0 (by omega)]
    · simp [Instr.sliceBounds, run_sliceBound (P := P) (w := w) (k := k') (y := cap) (by omega : 0 ≤ r) (by omega), run_sliceBound (P := P) (w := w) (k := k) (i := l) (y := r.toNat) h0 (by omega)]
  simp [Instr.sliceAt, Instr.slice, run_underlying hu, hb, hE.size, hsub]

theorem sl_length {α : Type} {xs : List α} {l h : Int} (h0 : 0 ≤ l) (h1 : l ≤ h) (h2 : h ≤ (xs.length : Int)) : (sl xs l h).length = (h - l).toNat := by
  simp only [sl, List.length_drop, List.length_take]; omega

theorem evSlice_sound (h : Fr P N w0 F0 G e a.tmps w F O) {tys : Tys} (ht : tys.ok P = true) {T : TypeId} {x : RS} {vx : Value} (hx : RSOk P G w F e a O x vx) {lo hi mx : Option RS} {vlo vhi vmx : Option Value}
    (hlo : OptOk P G w F e a O lo vlo) (hhi : OptOk P G w F e a O hi vhi) (hmx : OptOk P G w F e a O mx vmx)
    {sup sup' : List Sup} {s : S} {obs : List Prop} (hev : evSlice tys T x lo hi mx sup = some (s, obs, sup')) (hobs : ∀ p ∈ obs, p) : Yld P w F G e a (Instr.sliceAt T vx vlo vhi vmx) s := by
  unfold evSlice at hev
  split at hev
  · rename_i e1 r m hT
    obtain ⟨vm, rfl, hm⟩ := hmx
    split at hev
    · rename_i e2 xs k hr hl hh hmm
      simp only [Option.some.injEq, Prod.mk.injEq] at hev
      obtain ⟨rfl, rfl, rfl⟩ := hev
      obtain ⟨cs, k1, k2⟩ := rdv_sound h hx hr
      obtain ⟨ad, cap, css, Os, rfl, hcap, _⟩ := k2
      have k1' : [Value.slice ad xs.length cap] = [vx] := k1
      simp only [List.cons.injEq, and_true] at k1'
      subst k1'
      have hvm := rdInt_ok h hm hmm
      subst hvm
      obtain ⟨E, hu, hE⟩ := (tyAt_ok ht hT).slice
      cases hi with
      | none => simp at hh
      | some hi =>
        simp only [Option.bind_some] at hh
        rcases boundOr_ok h hhi hh with ⟨hc, _⟩ | ⟨k', hvh⟩
        · obtain ⟨_, hc', _⟩ := hhi; rw [hc'] at hc; simp at hc
        · subst hvh
          have hlv := boundOr_ok h hlo hl
          have z1 : ∀ y code, (Instr.sliceBound (.int k 0) y code).run P w = .ok 0 w := fun y code => by
            have := run_sliceBound (P := P) (w := w) (k := k) (i := 0) (y := y) (code := code) (by omega) (by omega)
            simpa using this
          have z2 : ∀ y code, (Instr.sliceBound (.int k' 0) y code).run P w = .ok 0 w := fun y code => by
            have := run_sliceBound (P := P) (w := w) (k := k') (i := 0) (y := y) (code := code) (by omega) (by omega)
            simpa using this
          have hb : (Instr.sliceBounds true xs.length cap vlo (some (.int k' 0)) (some (.int k 0))).run P w = .ok (0, 0, 0) w := by
            rcases hlv with ⟨rfl, _⟩ | ⟨k'', rfl⟩
            · simp [Instr.sliceBounds, z1, z2]
            · have z3 : ∀ y code, (Instr.sliceBound (.int k'' 0) y code).run P w = .ok 0 w := fun y code => by
                have := run_sliceBound (P := P) (w := w) (k := k'') (i := 0) (y := y) (code := code) (by omega) (by omega)
                simpa using this
              simp [Instr.sliceBounds, z1, z2, z3]
          refine Yld.same h (v := .slice ad 0 0) (by simp [Instr.sliceAt, Instr.slice, run_underlying hu, hb, hE.size]) ⟨[_], rfl, ad, 0, [], [], rfl, Nat.le_refl _, rfl, rfl, fun i hi => absurd hi (by simp), .inr (.inl ⟨by omega, rfl, rfl⟩)⟩
    · simp at hev
  · rename_i e1 t e2 xs rr hT
    split at hev
    · rename_i he
      subst he
      split at hev
      · rename_i l r hl hh
        simp only [Option.some.injEq, Prod.mk.injEq] at hev
        obtain ⟨rfl, rfl, rfl⟩ := hev
        obtain ⟨h0, h1, h2⟩ := hobs _ (List.mem_singleton.2 rfl)
        have hmx' : vmx = none := hmx
        subst hmx'
        obtain ⟨⟨Or, ⟨cs, hv, hr⟩, _⟩, hrt, hslot⟩ := hx
        obtain ⟨ad, cap, css, Os, rfl, hcap, hcl, hol, hr, hs⟩ := hr
        have hv' : [Value.slice ad xs.length cap] = [vx] := hv
        simp only [List.cons.injEq, and_true] at hv'
        subst hv'
        have hlen := sl_length h0 h1 h2
        refine Yld.same h (run_slice (tyAt_ok ht hT) (boundOr_ok h hlo hl) (boundOr_ok h hhi hh) h0 h1 h2 hcap) ⟨[_], rfl, _, cap - l.toNat, (css.take r.toNat).drop l.toNat, List.replicate (r - l).toNat [], by rw [hlen], by rw [hlen]; omega, by simp [hlen]; omega, by simp [hlen], fun i hi hi1 hi2 => ?_, .inl ⟨rfl, (flatten_nil fun y hy => (List.mem_replicate.1 hy).2).symm, ?_⟩⟩
        · rw [hlen] at hi
          obtain ⟨k1, k2⟩ := hr (l.toNat + i) (by omega) (by omega) (by omega)
          have hz := k1.zero_nil
          rw [hz] at k1
          simp only [sl, List.getElem_drop, List.getElem_take, List.getElem_replicate]
          exact ⟨k1, k2⟩
        · rcases hs with ⟨_, _, hs | ⟨b, o, rfl, hF, hat⟩⟩ | ⟨hn, _⟩ | ⟨hn, _⟩
          · left
            subst hs
            apply List.eq_nil_of_length_eq_zero
            rw [hlen]; simp at h2; omega
          · by_cases hcl' : cap = l.toNat
            · left
              apply List.eq_nil_of_length_eq_zero
              rw [hlen]; omega
            · right
              refine ⟨b, o + l.toNat * e2.sz, by simp [hcl', add_at], hF, fun i hi => ?_⟩
              simp only [List.length_drop, List.length_take] at hi
              simp only [List.getElem_drop, List.getElem_take]
              have := hat (l.toNat + i) (by omega)
              rwa [Nat.add_mul, ← Nat.add_assoc] at this
          · omega
          · omega
      · simp at hev
    · simp at hev
  · rename_i e1 t V p r hT
    obtain ⟨⟨Or, hrep, _⟩, hrt, hslot⟩ := hx
    simp only [roots, List.map_cons, List.map_nil, List.cons.injEq, and_true] at hrt
    subst hrt
    have hmx' : vmx = none := hmx
    subst hmx'
    obtain ⟨_, ⟨hrs, _, _⟩ | ⟨τ', cs', l', hv, hp⟩⟩ := hrep
    · cases heV : e V <;> rw [heV] at hev hrs <;> simp [rootGet, passive] at hev hrs
    · split at hev
      · rename_i n e2 xs hg
        obtain ⟨O'', hr, hat, rfl⟩ := h.place hp hg
        split at hev
        · rename_i he
          subst he
          split at hev
          · rename_i l r hl hh
            simp only [Option.some.injEq, Prod.mk.injEq] at hev
            obtain ⟨rfl, rfl, rfl⟩ := hev
            obtain ⟨h0, h1, h2⟩ := hobs _ (List.mem_singleton.2 rfl)
            have hr' : Rep P (.slice e2) (n + 1) w F xs cs' O'' := hr
            clear hr
            obtain ⟨ad, cap, css, Os, rfl, hcap, hcl, hol, hr, hs⟩ := hr'
            have hv' : [Value.slice ad xs.length cap] = [vx] := hv
            simp only [List.cons.injEq, and_true] at hv'
            subst hv'
            exact Yld.same h (run_slice (tyAt_ok ht hT) (boundOr_ok h hlo hl) (boundOr_ok h hhi hh) h0 h1 h2 hcap) ⟨rfl, ad, xs.length, cap, e2, _, l', rfl, hp, rfl, h0, h1, h2⟩
          · simp at hev
        · simp at hev
      · simp at hev
  · simp at hev

/-- The parts of a literal: their numbers, what is said of them, their values. -/
def PartsOk (P : Program) (G : Nat × Bool → Bool) (w : World) (F : Nat → Prop) (e : Nat → S) (a : Act) (O : Nat → List Nat) : List (Nat × RS) → List (Nat × Value) → Prop
  | [], vs => vs = []
  | q :: ps, vs => ∃ v vs', vs = (q.1, v) :: vs' ∧ RSOk P G w F e a O q.2 v ∧ PartsOk P G w F e a O ps vs'

theorem parts_ok (h : Fr P N w0 F0 G e a.tmps w F O) {ok : List (Nat × Bool)} (hok : ∀ g ∈ ok, G g = true) : ∀ (xs : List (Nat × Operand)), PartsOk P G w F e a O (xs.map fun q => (q.1, opd ok e q.2)) (xs.map fun q => (q.1, a.eval q.2))
  | [] => rfl
  | x :: xs => ⟨_, _, rfl, opd_ok h hok x.2, parts_ok h hok xs⟩

theorem cast?_eq {τ : Ty} {t : TV} {x : τ.den} (h : cast? τ t = some x) : t = ⟨τ, x⟩ := by
  unfold cast? at h
  split at h
  · rename_i ht
    obtain ⟨σ, y⟩ := t
    simp only at ht
    subst ht
    simp only [Option.some.injEq] at h
    rw [← h]
  · simp at h

/-- A slice literal: its cells, one part behind the other. -/
theorem buildSlice_fill (h : Fr P N w0 F0 G e a.tmps w F O) {E : Ty} : ∀ {ps : List (Nat × RS)} {vs : List (Nat × Value)} {k : Nat} {xs : List E.den} {cells : Array Value} {dn rest : List Value}, PartsOk P G w F e a O ps vs → evBuildSlice E k ps = some xs →
    cells.toList = dn ++ rest → dn.length = k * E.sz → rest.length = ps.length * E.sz →
    ∃ (c' : Array Value) (css : List (List Value)), Instr.fill (fun i => some (i * E.sz, E.sz)) cells vs = some c' ∧ c'.toList = dn ++ css.flatten ∧ css.length = xs.length ∧ xs.length = ps.length ∧
      ∀ i (h1 : i < xs.length) (h2 : i < css.length), Rep P E 0 w F xs[i] css[i] [] ∧ css[i].length = E.sz
  | [], vs, k, xs, cells, dn, rest, hp, hb, hc, hd, hr => by
    have hvs : vs = [] := hp
    subst hvs
    simp only [evBuildSlice, Option.some.injEq] at hb
    subst hb
    have : rest = [] := List.eq_nil_of_length_eq_zero (by simpa using hr)
    subst this
    exact ⟨cells, [], rfl, by simpa using hc, rfl, rfl, fun i h1 => absurd h1 (by simp)⟩
  | (j, r) :: ps, vs, k, xs, cells, dn, rest, hp, hb, hc, hd, hr => by
    obtain ⟨v, vs', rfl, hv, hp⟩ := hp
    simp only [evBuildSlice] at hb
    split at hb
    · rename_i hk
      have hk' := Nat.eq_of_beq_eq_true hk
      subst hk'
      split at hb
      · rename_i t hrd
        split at hb
        · rename_i x xs' hct hbs
          simp only [Option.some.injEq] at hb
          subst hb
          have := cast?_eq hct
          subst this
          obtain ⟨cs, g1, g2⟩ := rdk_sound h hv hrd
          have hcs : v.cells.toList = cs := g1.cells g2
          have hlen : cs.length = E.sz := g2.length
          have hsz : v.cells.size = E.sz := by rw [← Array.length_toList, hcs, hlen]
          simp only [List.length_cons, Nat.add_mul, Nat.one_mul] at hr
          have hsize : cells.size = dn.length + rest.length := by rw [← Array.length_toList, hc]; simp
          obtain ⟨c1, q1, q2⟩ := fill_step (place := fun i => some (i * E.sz, E.sz)) (cells := cells) (i := k) (v := v) (rest := vs') rfl hsz (by omega)
          have hc1 : c1.toList = (dn ++ cs) ++ rest.drop E.sz := by
            rw [q2, hc, hcs, ← hd, List.take_left]
            congr 1
            rw [List.drop_append, List.drop_eq_nil_of_le (by omega)]
            simp
          obtain ⟨c', css, p1, p2, p3, p4, p5⟩ := buildSlice_fill h hp hbs hc1 (by simp [hd, hlen, Nat.add_mul]) (by simp; omega)
          refine ⟨c', cs :: css, by rw [q1]; exact p1, by simp [p2], by simp [p3], by simp [p4], fun i h1 h2 => ?_⟩
          cases i with
          | zero => exact ⟨g2, hlen⟩
          | succ i => exact p5 i (by simpa using h1) (by simpa using h2)
        · simp at hb
      · simp at hb
    · simp at hb

theorem flatten_at {w : World} {b : Nat} {sz : Nat} : ∀ {css : List (List Value)} {o : Nat}, (∀ i (h : i < css.length), css[i].length = sz) → At w b o css.flatten → ∀ i (h : i < css.length), At w b (o + i * sz) css[i]
  | [], o, _, _, i, h => by simp at h
  | c :: css, o, hl, hat, i, h => by
    rw [List.flatten_cons, At.append] at hat
    cases i with
    | zero => simpa using hat.1
    | succ i =>
      have hc : c.length = sz := hl 0 (by simp)
      have := flatten_at (o := o + c.length) (fun i h => hl (i + 1) (by simpa using h)) hat.2 i (by simpa using h)
      rw [hc] at this
      simp only [List.getElem_cons_succ]
      rwa [Nat.add_mul, Nat.one_mul, Nat.add_comm (i * sz), ← Nat.add_assoc]

theorem evBuildSlice_sound (h : Fr P N w0 F0 G e a.tmps w F O) {tys : Tys} (ht : tys.ok P = true) {T : TypeId} {E : Ty} (hT : tyAt tys T = some (.slice E)) (hd : E.data = true) {n : Nat} (hn : n * E.sz ≤ 16777216)
    {ps : List (Nat × RS)} {vs : List (Nat × Value)} (hp : PartsOk P G w F e a O ps vs) (hl : ps.length = n) {xs : List E.den} (hb : evBuildSlice E 0 ps = some xs) :
    Yld P w F G e a (Instr.buildSlice T n vs.toArray) (.v (if E.flat then 9 else 1) (.slice E) xs) := by
  obtain ⟨Ei, hu, hE⟩ := (tyAt_ok ht hT).slice
  obtain ⟨z, hz1, hz2⟩ := hE.zeroV (w := w) hd
  have hzc : z.cells.toList = zeroCells E := hz2.cells (Rep.zero (P := P) (n := 0) (w := w) (F := F) hd)
  have hzl : (zeroCells E).length = E.sz := (Rep.zero (P := P) (n := 0) (w := w) (F := F) hd).length
  have hzs : z.cells.size = E.sz := by rw [← Array.length_toList, hzc, hzl]
  have hpos := E.sz_pos
  let c0 : Array Value := (Array.range (n * E.sz)).map ((if n * E.sz = 0 then #[] else z.cells)[· % (if n * E.sz = 0 then #[] else z.cells).size]!)
  have hc0 : c0.size = n * E.sz := by simp [c0]
  obtain ⟨c', css, p1, p2, p3, p4, p5⟩ := buildSlice_fill h hp hb (cells := c0) (dn := []) (rest := c0.toList) (by simp) (by simp) (by simp [hc0, hl])
  have hrun : (Instr.buildSlice T n vs.toArray).run P w = .ok (.slice (some ⟨w.heap.size, 0, none⟩) n n) (w.alloc (.cells c' Ei)) := by
    by_cases hcz : n * E.sz = 0
    · have hn0 : n = 0 := by
        rcases Nat.mul_eq_zero.1 hcz with h | h
        · exact h
        · omega
      subst hn0
      simp only [c0, Nat.zero_mul, if_true] at p1
      simp [Instr.buildSlice, run_underlying hu, hE.size, newRow]
      simp at p1
      rw [p1]
      simp
    · have hn0 : ¬ (n = 0 ∨ E.sz = 0) := by rw [← Nat.mul_eq_zero]; exact hcz
      simp only [c0, hcz, if_false] at p1
      have hle : ¬ (16777216 < n * E.sz) := by omega
      simp [Instr.buildSlice, run_underlying hu, hE.size, newRow, hn0, hz1, hle, p1]
      intro hc
      exact absurd hc hcz
  have hxl : xs.length = n := by rw [p4, hl]
  obtain ⟨hext, hold⟩ := h.ext (Out.alloc h.lt (.cells c' Ei))
  have hrep : ∀ i (h1 : i < xs.length) (h2 : i < css.length), Rep P E 0 (w.alloc (.cells c' Ei)) F xs[i] css[i] [] ∧ css[i].length = E.sz := by
    intro i h1 h2
    obtain ⟨r1, r2⟩ := p5 i h1 h2
    exact ⟨r1.mono hext (fun b hb => by cases hb), r2⟩
  have hat : At (w.alloc (.cells c' Ei)) w.heap.size 0 css.flatten := by
    intro j hj
    rw [cell_new, Nat.zero_add, ← Array.getElem?_toList, p2, List.nil_append]
    simp
  have hats := fun i (hi : i < css.length) => flatten_at (fun i hi => (hrep i (by omega) hi).2) hat i hi
  have hcs : c'.size = n * E.sz := by
    rw [← Array.length_toList, p2]
    simp only [List.nil_append, List.length_flatten]
    have : ∀ (l : List (List Value)), (∀ i (h : i < l.length), l[i].length = E.sz) → (l.map List.length).sum = l.length * E.sz := by
      intro l
      induction l with
      | nil => intro _; simp
      | cons c l ih =>
        intro hh
        simp only [List.map_cons, List.sum_cons, List.length_cons, Nat.add_mul, Nat.one_mul]
        rw [ih fun i hi => hh (i + 1) (by simpa using hi)]
        have := hh 0 (by simp)
        simp only [List.getElem_cons_zero] at this
        omega
    rw [this css fun i hi => (hrep i (by omega) hi).2, p3, hxl]
  have hout : Out w F (w.alloc (.cells c' Ei)) F (if n = 0 then [] else [w.heap.size]) := by
    by_cases hn0 : n = 0
    · rw [if_pos hn0]; exact (Out.alloc h.lt _).drop
    · rw [if_neg hn0]; exact Out.alloc h.lt _
  have hnil : (List.replicate n ([] : List Nat)).flatten = [] := flatten_nil fun y hy => (List.mem_replicate.1 hy).2
  refine ⟨_, _, F, _, hrun, hout, [_], rfl, some ⟨w.heap.size, 0, none⟩, n, css, List.replicate n [], by rw [hxl], by omega, by omega, by simp [hxl], fun i h1 h2 h3 => ?_, ?_⟩
  · obtain ⟨r1, r2⟩ := hrep i h1 h2
    refine ⟨?_, r2⟩
    rw [List.getElem_replicate]
    by_cases hf : E.flat = true
    · exact (r1.flat hf).2 _ _ _
    · simp only [hf, Bool.false_eq_true, if_false]
      exact r1
  · have hpos' : 0 < (if E.flat = true then 9 else 1) := by split <;> omega
    by_cases hn0 : n = 0
    · exact .inr (.inl ⟨hpos', hn0, by rw [if_pos hn0]⟩)
    · refine .inr (.inr ⟨hpos', w.heap.size, 0, rfl, hats, ⟨c', Ei, alloc_heap, by rw [hcs]; omega⟩, by rw [if_neg hn0, hnil]⟩)
end
end Go.Tom
