/- Each operation does what evalQ says: new memory. -/
import Derived.Test.YtagcgcpapjidcaaTomJ
set_option linter.unusedVariables false
set_option linter.unusedSimpArgs false
namespace Go.Tom
open Go

theorem wrap_id {n : Int} (h0 : 0 ≤ n) (h1 : n ≤ 4611686018427387904) : IntKind.i64.wrap n = n := IntWalk.i64_in n (by omega)

theorem Out.alloc {w : World} {F : Nat → Prop} (h : ∀ b, F b → b < w.heap.size) (o : Obj) : Out w F (w.alloc o) F [w.heap.size] := by
  refine ⟨(RowKit.Below.refl _ _).alloc (Nat.le_refl _) o, fun _ h => h, fun b hb => ?_, fun _ h _ => h, by simp, fun b hb => ?_⟩
  · have := h b hb; rw [World.size_alloc]; omega
  · rw [List.mem_singleton] at hb
    subst hb
    refine ⟨Nat.le_refl _, by rw [World.size_alloc]; omega, fun hF => ?_⟩
    have := h _ hF
    omega

/-- What is owned may be let go. -/
theorem Out.drop {w w' : World} {F F' : Nat → Prop} {On : List Nat} (h : Out w F w' F' On) : Out w F w' F' [] :=
  ⟨h.below, h.sub, h.lt, h.old, List.nodup_nil, fun b hb => by cases hb⟩

theorem alloc_heap {w : World} {o : Obj} : (w.alloc o).heap[w.heap.size]? = some o := by
  show (w.heap.push o)[w.heap.size]? = some o
  simp

theorem cell_new {w : World} {c : Array Value} {T : TypeId} {i : Nat} : (w.alloc (.cells c T)).cell? ⟨w.heap.size, i, none⟩ = c[i]? := World.cell?_alloc_new w c T i

section
variable {P : Program} {N : Nat} {w0 w : World} {F0 F : Nat → Prop} {G : Nat × Bool → Bool} {e : Nat → S} {a : Act} {O : Nat → List Nat}

theorem evAlloc_sound (h : Fr P N w0 F0 G e a.tmps w F O) {tys : Tys} (ht : tys.ok P = true) {T : TypeId} {τ : Ty} (hT : tyAt tys T = some τ) (hd : τ.data = true) :
    Yld P w F G e a (Instr.alloc T true (.tuple #[])) (.box 9 τ τ.zero) := by
  have hok := tyAt_ok ht hT
  obtain ⟨z, hz1, hz2⟩ := hok.zeroV (w := w) hd
  have hrep : ∀ w', Rep P τ 9 w' F τ.zero (zeroCells τ) [] := fun w' => Rep.zero hd
  refine ⟨.pointer (some ⟨w.heap.size, 0, none⟩), w.alloc (.cells z.cells T), F, [w.heap.size], ?_, Out.alloc h.lt _, w.heap.size, zeroCells τ, T, [], rfl, ?_, hrep _, rfl⟩
  · simp [Instr.alloc, hz1, newVar, newRow]
  · rw [alloc_heap]
    have := hz2.cells (hrep w)
    rw [← this]

theorem range_map_get {α : Type} [Inhabited α] {n : Nat} {f : Nat → α} {i : Nat} (h : i < n) : ((Array.range n).map f)[i]? = some (f i) := by
  simp [h]

theorem evMakeSlice_sound (h : Fr P N w0 F0 G e a.tmps w F O) {tys : Tys} (ht : tys.ok P = true) {T : TypeId} {x y : RS} {vx vy : Value} (hx : RSOk P G w F e a O x vx) (hy : RSOk P G w F e a O y vy)
    {sup sup' : List Sup} {s : S} {obs : List Prop} (hev : evMakeSlice tys T x y sup = some (s, obs, sup')) (hobs : ∀ p ∈ obs, p) : Yld P w F G e a (Instr.makeSlice T vx vy) s := by
  unfold evMakeSlice at hev
  split at hev
  · rename_i e1 l c hT hl hc
    have hvx := rdInt_ok h hx hl
    have hvy := rdInt_ok h hy hc
    subst hvx; subst hvy
    split at hev
    · rename_i hd
      simp only [Option.some.injEq, Prod.mk.injEq] at hev
      obtain ⟨rfl, rfl, rfl⟩ := hev
      obtain ⟨h0, h1, h2⟩ := hobs _ (List.mem_singleton.2 rfl)
      simp only [lim] at h2
      obtain ⟨E, hu, hE⟩ := (tyAt_ok ht hT).slice
      obtain ⟨inf, hi, hsz, hby, hzz⟩ := hE.info
      obtain ⟨z, hz1, hz2⟩ := hzz hd
      have hzc : z.cells.toList = zeroCells e1 := hz2.cells (Rep.zero (P := P) (n := 0) (w := w) (F := F) hd)
      have hzl : (zeroCells e1).length = e1.sz := (Rep.zero (P := P) (n := 0) (w := w) (F := F) hd).length
      have hzs : z.cells.size = e1.sz := by rw [← Array.length_toList, hzc, hzl]
      have hwl : IntKind.i64.wrap l = l := wrap_id h0 (by omega)
      have hwc : IntKind.i64.wrap c = c := wrap_id (by omega) (by omega)
      have hpos := e1.sz_pos
      have hb1 : ¬ ((281474976710656 : Int) < (inf.bytes : Int) * c) := by
        have h3 : (inf.bytes : Int) * c ≤ 65536 * 4294967296 := Int.mul_le_mul (by omega) h2 (by omega) (by omega)
        omega
      have hb2 : ¬ (c < 0) := by omega
      have hb3 : ¬ (l < 0) := by omega
      have hb4 : ¬ (c < l) := by omega
      have hrun : (Instr.makeSlice T (.int .i64 l) (.int .i64 c)).run P w = .ok (.slice (some ⟨w.heap.size, 0, none⟩) l.toNat c.toNat)
          (w.alloc (.cells ((Array.range (c.toNat * e1.sz)).map ((if c.toNat * e1.sz = 0 then #[] else z.cells)[· % (if c.toNat * e1.sz = 0 then #[] else z.cells).size]!)) E)) := by
        by_cases hcz : c.toNat * e1.sz = 0
        · have hz' : c.toNat = 0 := by
            rcases Nat.mul_eq_zero.1 hcz with h | h
            · exact h
            · omega
          simp [Instr.makeSlice, run_underlying hu, asInt, asIntOf, typeInfo, hi, hwl, hwc, hb1, hb2, hb3, hb4, sizeOf, hsz, hz', newRow]
        · simp [Instr.makeSlice, run_underlying hu, asInt, asIntOf, typeInfo, hi, hwl, hwc, hb1, hb2, hb3, hb4, sizeOf, hsz, hcz, newRow, zeroValue, hz1]
      refine ⟨_, _, F, if c.toNat = 0 then [] else [w.heap.size], hrun, ?_, [.slice (some ⟨w.heap.size, 0, none⟩) l.toNat c.toNat], rfl, ?_⟩
      · by_cases hcz : c.toNat = 0
        · rw [if_pos hcz]; exact (Out.alloc h.lt _).drop
        · rw [if_neg hcz]; exact Out.alloc h.lt _
      · refine ⟨some ⟨w.heap.size, 0, none⟩, c.toNat, List.replicate l.toNat (zeroCells e1), List.replicate l.toNat [], by simp, by simp; omega, by simp, by simp, fun i hi1 h1 h2 => ?_, ?_⟩
        · simp only [List.getElem_replicate]
          exact ⟨Rep.zero hd, hzl⟩
        · by_cases hcz : c.toNat = 0
          · exact .inr (.inl ⟨by omega, hcz, by simp [hcz]⟩)
          · have hne : c.toNat * e1.sz ≠ 0 := Nat.mul_ne_zero hcz (by omega)
            refine .inr (.inr ⟨by omega, w.heap.size, 0, rfl, fun i hi1 j hj => ?_, ⟨_, E, alloc_heap, ?_⟩, ?_⟩)
            · simp only [List.getElem_replicate] at hj ⊢
              simp only [List.length_replicate] at hi1
              rw [hzl] at hj
              have hlt : i * e1.sz + j < c.toNat * e1.sz := by
                have : (i + 1) * e1.sz ≤ c.toNat * e1.sz := Nat.mul_le_mul_right _ (by omega)
                rw [Nat.add_mul] at this
                omega
              rw [cell_new, Nat.zero_add, range_map_get hlt, if_neg hne, hzs]
              have hmod : (i * e1.sz + j) % e1.sz = j := by
                rw [Nat.mul_comm, Nat.mul_add_mod]
                exact Nat.mod_eq_of_lt hj
              rw [hmod]
              have : z.cells[j]! = (zeroCells e1)[j]'(by omega) := by
                simp only [← hzc]
                rw [getElem!_pos z.cells j (by omega)]
                simp
              rw [this]
            · simp
            · have : (List.replicate l.toNat ([] : List Nat)).flatten = [] := flatten_nil fun y hy => (List.mem_replicate.1 hy).2
              simp [hcz, this]
    · simp at hev
  · simp at hev

theorem evMove_sound (h : Fr P N w0 F0 G e a.tmps w F O) {tys : Tys} (ht : tys.ok P = true) {T : TypeId} {x : RS} {vx : Value} (hx : RSOk P G w F e a O x vx)
    {sup sup' : List Sup} {s : S} {obs : List Prop} (hev : evMove tys T x sup = some (s, obs, sup')) : SRep P G w F a.tmps e vx s [] := by
  unfold evMove at hev
  split at hev
  · rename_i V n τ xv rr
    obtain ⟨⟨Or, hrep, _⟩, hrt, hslot⟩ := hx
    obtain ⟨hV, hvx⟩ := hslot V rfl
    obtain ⟨cs, hv, hr⟩ := hrep
    refine atPlace_sound (V := V) (p := []) (n := n) (t := ⟨τ, xv⟩) (l' := none) (sup := sup) (sup' := sup') (obs := obs) hev hv hr ⟨τ, cs, none, ?_, rfl, rfl, rfl⟩
    rw [hV, ← hvx]; exact ⟨rfl, hv, rfl⟩
  · rename_i n τ xv rr
    obtain ⟨⟨Or, ⟨cs, hv, hr⟩, _⟩, hrt, hslot⟩ := hx
    split at hev
    · rename_i hc
      simp only [Option.some.injEq, Prod.mk.injEq] at hev
      obtain ⟨rfl, rfl, rfl⟩ := hev
      refine ⟨cs, hv, ?_⟩
      simp only [Bool.or_eq_true] at hc
      rcases hc with hc | hc
      · exact (hr.flat hc).2 _ _ _
      · obtain rfl := Nat.eq_of_beq_eq_true hc
        have := hr.zero_nil
        rwa [this] at hr
    · simp at hev
  · rename_i V rs rr
    obtain ⟨⟨Or, hrep, _⟩, hrt, hslot⟩ := hx
    obtain ⟨hV, hvx⟩ := hslot V rfl
    simp only [Option.some.injEq, Prod.mk.injEq] at hev
    obtain ⟨rfl, rfl, rfl⟩ := hev
    exact ⟨rfl, .inl ⟨by rw [hV]; rfl, rfl, hvx⟩⟩
  · rename_i V n0 τ0 x0 p0 rr
    obtain ⟨⟨Or, hrep, _⟩, hrt, hslot⟩ := hx
    obtain ⟨hV, hvx⟩ := hslot V rfl
    simp only [Option.some.injEq, Prod.mk.injEq] at hev
    obtain ⟨rfl, rfl, rfl⟩ := hev
    exact ⟨rfl, .inl ⟨by rw [hV]; rfl, rfl, hvx⟩⟩
  · obtain ⟨⟨Or, hrep, _⟩, hrt, hslot⟩ := hx
    split at hev
    · rename_i e1 hT
      simp only [Option.some.injEq, Prod.mk.injEq] at hev
      obtain ⟨rfl, rfl, rfl⟩ := hev
      obtain ⟨_, rfl⟩ := hrep
      exact ⟨[_], rfl, none, 0, [], [], rfl, Nat.le_refl _, rfl, rfl, fun i hi => absurd hi (by simp), .inr (.inl ⟨by omega, rfl, rfl⟩)⟩
    · simp at hev
  all_goals first
    | (simp only [Option.some.injEq, Prod.mk.injEq] at hev
       obtain ⟨rfl, rfl, rfl⟩ := hev
       obtain ⟨⟨Or, hrep, _⟩, hrt, hslot⟩ := hx
       exact ⟨rfl, hrep.2⟩)
    | simp at hev

theorem evLen_sound (h : Fr P N w0 F0 G e a.tmps w F O) {tys : Tys} (ht : tys.ok P = true) {T : TypeId} {x : RS} {vx : Value} (hx : RSOk P G w F e a O x vx) {ty : TypeId}
    {sup sup' : List Sup} {s : S} {obs : List Prop} (hev : evLen tys T x sup = some (s, obs, sup')) : Yld P w F G e a (Builtin.len_ #[T] ty #[vx]) s := by
  unfold evLen at hev
  split at hev
  · rename_i e1 t rr hT
    simp only [qv, Option.some.injEq, Prod.mk.injEq] at hev
    obtain ⟨rfl, rfl, rfl⟩ := hev
    obtain ⟨E, hu, _⟩ := (tyAt_ok ht hT).slice
    obtain ⟨⟨Or, ⟨_, hrep⟩, _⟩, hrt, hslot⟩ := hx
    subst hrep
    exact Yld.same h (v := .int .i64 0) (by simp [Builtin.len_, run_underlying hu, goInt]) ⟨[_], rfl, rfl, rfl⟩
  · rename_i e1 t V p lo hi rr hT
    simp only [qv, Option.some.injEq, Prod.mk.injEq] at hev
    obtain ⟨rfl, rfl, rfl⟩ := hev
    obtain ⟨E, hu, _⟩ := (tyAt_ok ht hT).slice
    obtain ⟨⟨Or, ⟨_, ad, len, cap, e', cs', l, hv, _, _, h1, h2, h3⟩, _⟩, hrt, hslot⟩ := hx
    have : (((hi - lo).toNat : Nat) : Int) = hi - lo := by omega
    refine Yld.same h (v := .int .i64 (hi - lo)) ?_ ⟨[_], rfl, rfl, rfl⟩
    rw [hv]
    simp [Builtin.len_, run_underlying hu, goInt]
    omega
  · rename_i e1 hT _ _
    obtain ⟨E, hu, _⟩ := (tyAt_ok ht hT).slice
    split at hev
    · rename_i e2 xs hr
      simp only [qv, Option.some.injEq, Prod.mk.injEq] at hev
      obtain ⟨rfl, rfl, rfl⟩ := hev
      obtain ⟨cs, k1, k2⟩ := rdv_sound h hx hr
      obtain ⟨ad, cap, css, Os, rfl, _⟩ := k2
      have k1' : [Value.slice ad xs.length cap] = [vx] := k1
      simp only [List.cons.injEq, and_true] at k1'
      subst k1'
      exact Yld.same h (v := .int .i64 (xs.length : Int)) (by simp [Builtin.len_, run_underlying hu, goInt]) ⟨[_], rfl, rfl, rfl⟩
    · simp at hev
  · rename_i hT
    split at hev
    · rename_i st hr
      simp only [qv, Option.some.injEq, Prod.mk.injEq] at hev
      obtain ⟨rfl, rfl, rfl⟩ := hev
      have hvx := rdk_str h hx hr
      subst hvx
      exact Yld.same h (v := .int .i64 (st.size : Int)) (by simp [Builtin.len_, run_underlying (tyAt_ok ht hT).str, goInt]) ⟨[_], rfl, rfl, rfl⟩
    · simp at hev
  · simp at hev

/-- Several operands. -/
def RSsOk (P : Program) (G : Nat × Bool → Bool) (w : World) (F : Nat → Prop) (e : Nat → S) (a : Act) (O : Nat → List Nat) : List RS → List Value → Prop
  | [], vs => vs = []
  | r :: rs, vs => ∃ v vs', vs = v :: vs' ∧ RSOk P G w F e a O r v ∧ RSsOk P G w F e a O rs vs'

theorem opds_ok (h : Fr P N w0 F0 G e a.tmps w F O) {ok : List (Nat × Bool)} (hok : ∀ g ∈ ok, G g = true) : ∀ (xs : List Operand), RSsOk P G w F e a O (xs.map (opd ok e)) (xs.map a.eval)
  | [] => rfl
  | x :: xs => ⟨_, _, rfl, opd_ok h hok x, opds_ok h hok xs⟩

theorem mm_sound (h : Fr P N w0 F0 G e a.tmps w F O) {isMax : Bool} {k : IntKind} : ∀ {rs : List RS} {vs : List Value} {x z : Int}, RSsOk P G w F e a O rs vs → mm isMax k x rs = some z →
    (vs.foldlM (if isMax then Builtin.max2 else Builtin.min2) (.int k x)).run P w = .ok (.int k z) w
  | [], vs, x, z, hr, hm => by
    subst hr
    simp only [mm, Option.some.injEq] at hm
    subst hm
    simp
  | r :: rs, vs, x, z, hr, hm => by
    obtain ⟨v, vs', rfl, hv, hr⟩ := hr
    simp only [mm] at hm
    split at hm
    · rename_i k' y hk
      have hvx := rdInt_ok h hv hk
      subst hvx
      split at hm
      · rename_i hkk
        subst hkk
        have := mm_sound h hr hm
        cases isMax
        · simp only [Bool.false_eq_true, if_false] at this ⊢
          simp [Builtin.min2, this]
        · simp only [if_true] at this ⊢
          simp [Builtin.max2, this]
      · simp at hm
    · simp at hm

theorem evMM_sound (h : Fr P N w0 F0 G e a.tmps w F O) {isMax : Bool} {rs : List RS} {vs : List Value} (hr : RSsOk P G w F e a O rs vs) {Ts : Array TypeId} {ty : TypeId}
    {sup sup' : List Sup} {s : S} {obs : List Prop} (hev : evMM isMax rs sup = some (s, obs, sup')) : Yld P w F G e a (if isMax then Builtin.max_ Ts ty vs.toArray else Builtin.min_ Ts ty vs.toArray) s := by
  unfold evMM at hev
  split at hev
  · rename_i r rs
    obtain ⟨v, vs', rfl, hv, hr⟩ := hr
    split at hev
    · rename_i k x hk
      have hvx := rdInt_ok h hv hk
      subst hvx
      split at hev
      · rename_i z hm
        simp only [qv, Option.some.injEq, Prod.mk.injEq] at hev
        obtain ⟨rfl, rfl, rfl⟩ := hev
        have := mm_sound h hr hm
        refine Yld.same h (v := .int k z) ?_ ⟨[_], rfl, rfl, rfl⟩
        cases isMax
        · simpa [Builtin.min_] using this
        · simpa [Builtin.max_] using this
      · simp at hev
    · simp at hev
  · simp at hev

theorem evExtract_sound (h : Fr P N w0 F0 G e a.tmps w F O) {i : Nat} {x : RS} {vx : Value} (hx : RSOk P G w F e a O x vx)
    {sup sup' : List Sup} {s : S} {obs : List Prop} (hev : evExtract i x sup = some (s, obs, sup')) : Yld P w F G e a (Instr.extract vx i) s := by
  have key : ∀ {V : Nat} {rs : List (Option Res)} {r : Res}, e V = .tup rs → vx = a.tmps.getD V undef → rs[i]? = some (some r) →
      (if r.τ.flat || Nat.beq r.n 0 then some (S.v 0 r.τ r.x, ([] : List Prop), sup) else some (.ext V i, [], sup)) = some (s, obs, sup') → Yld P w F G e a (Instr.extract vx i) s := by
    intro V rs r hV hv hri hev
    have hrep := h.rep V
    rw [hV] at hrep
    obtain ⟨vs, hvs, htup⟩ := hrep
    obtain ⟨v', cs, Oi, k1, k2, k3, k4⟩ := htup.at hri
    rw [hvs] at hv
    subst hv
    have hrun : (Instr.extract (.tuple vs.toArray) i).run P w = .ok v' w := by
      have : vs.toArray[i]? = some v' := by simpa using k1
      simp only [Instr.extract, this]
      rfl
    refine Yld.same h hrun ?_
    split at hev
    · rename_i hc
      simp only [Option.some.injEq, Prod.mk.injEq] at hev
      obtain ⟨rfl, rfl, rfl⟩ := hev
      refine ⟨cs, k2, ?_⟩
      simp only [Bool.or_eq_true] at hc
      rcases hc with hc | hc
      · exact (k3.flat hc).2 _ _ _
      · have hn := Nat.eq_of_beq_eq_true hc
        rw [hn] at k3
        have := k3.zero_nil
        rwa [this] at k3
    · simp only [Option.some.injEq, Prod.mk.injEq] at hev
      obtain ⟨rfl, rfl, rfl⟩ := hev
      exact ⟨rfl, rs, vs.toArray, hV, hvs, by simpa using k1⟩
  unfold evExtract at hev
  split at hev
  · rename_i t V rs
    obtain ⟨⟨Or, hrep, _⟩, hrt, hslot⟩ := hx
    simp only [roots, List.map_cons, List.map_nil, List.cons.injEq, and_true] at hrt
    obtain ⟨_, ⟨hrs, _, hv⟩ | ⟨τ', cs', l, hv, τ, cs, l0, hroot, hp⟩⟩ := hrep
    · split at hev
      · rename_i r hri
        exact key hrt.symm hv hri hev
      · simp at hev
    · rw [← hrt] at hroot
      exact hroot.elim
  · rename_i V rs rr
    obtain ⟨⟨Or, hrep, _⟩, hrt, hslot⟩ := hx
    obtain ⟨hV, hvx⟩ := hslot V rfl
    split at hev
    · rename_i r hri
      exact key hV hvx hri hev
    · simp at hev
  · simp at hev

theorem capSlots_map : ∀ {l : List Operand} {cs : List Nat}, capSlots l = some cs → l.map a.eval = cs.map fun t => a.tmps.getD t undef
  | [], cs, h => by simp only [capSlots, Option.some.injEq] at h; subst h; rfl
  | .tmp t :: r, cs, h => by
    simp only [capSlots, Option.map_eq_some_iff] at h
    obtain ⟨cs', h, rfl⟩ := h
    simp [Act.eval, capSlots_map h]
  | .const _ :: _, cs, h => by simp [capSlots] at h
  | .global _ :: _, cs, h => by simp [capSlots] at h
  | .func _ :: _, cs, h => by simp [capSlots] at h

theorem evPick_sound (h : Fr P N w0 F0 G e a.tmps w F O) {xo yo : Operand} {β : Bool} {x y : RS} {vx vy : Value} {sup sup' : List Sup} {s : S} {obs : List Prop}
    (hev : evPick xo yo (some β) x y sup = some (s, obs, sup')) (hx : β = true → RSOk P G w F e a O x vx) (hy : β = false → RSOk P G w F e a O y vy)
    (hcx : ∀ b, xo = .const (.bool b) → vx = .bool b) (hcy : ∀ b, yo = .const (.bool b) → vy = .bool b) :
    SRep P G w F a.tmps e (if β then vx else vy) s [] := by
  unfold evPick at hev
  split at hev
  · rename_i β' u v hc h1 h2
    simp only [Option.some.injEq] at hc
    subst hc
    simp only [qv, Option.some.injEq, Prod.mk.injEq] at hev
    obtain ⟨rfl, rfl, rfl⟩ := hev
    refine ⟨[.bool (pickB β xo yo u v)], ?_, rfl, rfl⟩
    show [Value.bool (pickB β xo yo u v)] = [if β then vx else vy]
    congr 1
    have eu : β = true → vx = .bool u := fun hb => rdk_bool h (hx hb) h1
    have ev : β = false → vy = .bool v := fun hb => rdk_bool h (hy hb) h2
    have key : pickB β xo yo u v = if β then u else v := by
      unfold pickB
      split
      · have := hcy false rfl
        cases β
        · have := (ev rfl).symm.trans this; simp only [Value.bool.injEq] at this; simp [this]
        · simp
      · have := hcx true rfl
        cases β
        · simp
        · have := (eu rfl).symm.trans this; simp only [Value.bool.injEq] at this; simp [this]
      · have := hcx false rfl
        cases β
        · simp
        · have := (eu rfl).symm.trans this; simp only [Value.bool.injEq] at this; simp [this]
      · have := hcy true rfl
        cases β
        · have := (ev rfl).symm.trans this; simp only [Value.bool.injEq] at this; simp [this]
        · simp
      · cases β <;> rfl
    rw [key]
    cases β
    · simp [ev rfl]
    · simp [eu rfl]
  · rename_i β' τ u τ' v _ hc h1 h2
    simp only [Option.some.injEq] at hc
    subst hc
    split at hev
    · rename_i hτ
      subst hτ
      split at hev
      · rename_i hfl
        simp only [qv, Option.some.injEq, Prod.mk.injEq] at hev
        obtain ⟨rfl, rfl, rfl⟩ := hev
        cases β
        · obtain ⟨cs, k1, k2⟩ := rdk_sound h (hy rfl) h2
          exact ⟨cs, by simpa using k1, by simpa using k2⟩
        · obtain ⟨cs, k1, k2⟩ := rdk_sound h (hx rfl) h1
          exact ⟨cs, by simpa using k1, by simpa using k2⟩
      · simp at hev
    · simp at hev
  · simp at hev
end
end Go.Tom
