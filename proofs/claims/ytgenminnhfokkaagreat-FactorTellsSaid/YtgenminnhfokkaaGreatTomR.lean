/- What the contracts of the functions are proved by (part R). -/
import Derived.Test.YtgenminnhfokkaaGreatTomJ
set_option linter.unusedVariables false
set_option linter.unusedSimpArgs false
namespace Go.Tom
open Go
theorem wrap_id {n : Int} (h0 : 0 ≤ n) (h1 : n ≤ 4611686018427387904) : IntKind.i64.wrap n = n := IntWalk.i64_in n (by omega)
theorem Out.alloc {w : World} {F : Nat → Prop} (h : ∀ b, F b → b < w.heap.size) (o : Obj) : Out w F (w.alloc o) F [w.heap.size] := by
 refine ⟨(RowKit.Below.refl _ _).alloc (Nat.le_refl _) o, fun _ h => h, fun b hb => ?_, fun _ h _ => h, by simp, fun b hb => ?_⟩
 ·have := h b hb; rw [World.size_alloc]; omega
 ·rw [List.mem_singleton] at hb
  subst hb
  refine ⟨Nat.le_refl _, by rw [World.size_alloc]; omega, fun hF => ?_⟩
  have := h _ hF
  omega
theorem Out.drop {w w' : World} {F F' : Nat → Prop} {On : List Nat} (h : Out w F w' F' On) : Out w F w' F' [] :=
 ⟨h.below, h.sub, h.lt, h.old, List.nodup_nil, fun b hb => by cases hb⟩
theorem alloc_heap {w : World} {o : Obj} : (w.alloc o).heap[w.heap.size]? = some o := by
 show (w.heap.push o)[w.heap.size]? = some o
 simp
theorem cell_new {w : World} {c : Array Value} {T : TypeId} {i : Nat} : (w.alloc (.cells c T)).cell? ⟨w.heap.size, i, none⟩ = c[i]? := World.cell?_alloc_new w c T i
section
variable {P : Program} {N : Nat} {w0 : Start} {w : World} {F0 F : Nat → Prop} {G : Nat × Bool → Bool} {e : Nat → S} {a : Act} {O : Nat → List Nat}
theorem evAlloc_sound (h : Fr P N w0 F0 G e a.tmps w F O) {tys : Tys} (ht : tys.ok P = true) {T : TypeId} {τ : Ty} (hT : tyAt tys T = some τ) (hd : τ.data = true) :
  Yld P w F G e a (Instr.alloc T true (.tuple #[])) (.box 9 τ τ.zero) := by
 have hok := tyAt_ok ht hT
 obtain ⟨z, hz1, hz2⟩ := hok.zeroV (w := w) hd
 have hrep : ∀ w', Rep P τ 9 w' F τ.zero (zeroCells τ) [] := fun w' => Rep.zero hd
 refine ⟨.pointer (some ⟨w.heap.size, 0, none⟩), w.alloc (.cells z.cells T), F, [w.heap.size], ?_, Out.alloc h.lt _, w.heap.size, zeroCells τ, T, [], rfl, ?_, hrep _, rfl⟩
 ·simp [Instr.alloc, hz1, newVar, newRow]
 ·rw [alloc_heap]
  have := hz2.cells (hrep w)
  rw [← this]
theorem range_map_get {α : Type} [Inhabited α] {n : Nat} {f : Nat → α} {i : Nat} (h : i < n) : ((Array.range n).map f)[i]? = some (f i) := by
 simp [h]
theorem evMakeSlice_sound (h : Fr P N w0 F0 G e a.tmps w F O) {tys : Tys} (ht : tys.ok P = true) {T : TypeId} {x y : RS} {vx vy : Value} (hx : RSOk P G w F e a O x vx) (hy : RSOk P G w F e a O y vy)
  {sup sup' : List Sup} {s : S} {obs : List Prop} (hev : evMakeSlice tys T x y sup = some (s, obs, sup')) (hobs : ∀ p ∈ obs, p) : Yld P w F G e a (Instr.makeSlice T vx vy) s := by
 unfold evMakeSlice at hev
 split at hev
 ·rename_i e1 l c hT hl hc
  have hvx := rdInt_ok h hx hl
  have hvy := rdInt_ok h hy hc
  subst hvx; subst hvy
  split at hev
  ·rename_i hd
   simp only [Option.some.injEq, Prod.mk.injEq] at hev
   obtain ⟨rfl, rfl, rfl⟩ := hev
   obtain ⟨h0, h1, h2⟩ := hobs _ (List.mem_singleton.2 rfl)
   simp only [lim] at h2
   obtain ⟨E, hu, hE⟩ := (tyAt_ok ht hT).slice
   obtain ⟨inf, hi, hsz, hby, hzz⟩ := hE.info
   obtain ⟨z, hz1, hz2⟩ := hzz hd
   have hzc : z.cells.toList = zeroCells e1 := hz2.cells (Rep.zero (P := P) (n := 0) (w := w) (F := F) hd)
   have hzl : (zeroCells e1).length = e1.sz := (Rep.zero (P := P) (n := 0) (w := w) (F := F) hd).length
   have hzs : z.cells.size = e1.sz := by rw [← Array.length_toList, hzc, hzl]
   have hwl : IntKind.i64.wrap l = l := wrap_id h0 (by omega)
   have hwc : IntKind.i64.wrap c = c := wrap_id (by omega) (by omega)
   have hpos := e1.sz_pos
   have hb1 : ¬ ((281474976710656 : Int) < (inf.bytes : Int) * c) := by
    have h3 : (inf.bytes : Int) * c ≤ 65536 * 4294967296 := Int.mul_le_mul (by omega) h2 (by omega) (by omega)
    omega
   have hb2 : ¬ (c < 0) := by omega
   have hb3 : ¬ (l < 0) := by omega
   have hb4 : ¬ (c < l) := by omega
   have hrun : (Instr.makeSlice T (.int .i64 l) (.int .i64 c)).run P w = .ok (.slice (some ⟨w.heap.size, 0, none⟩) l.toNat c.toNat)
     (w.alloc (.cells ((Array.range (c.toNat * e1.sz)).map ((if c.toNat * e1.sz = 0 then #[] else z.cells)[· % (if c.toNat * e1.sz = 0 then #[] else z.cells).size]!)) E)) := by
    by_cases hcz : c.toNat * e1.sz = 0
    ·have hz' : c.toNat = 0 := by
      rcases Nat.mul_eq_zero.1 hcz with h | h
      ·exact h
      ·omega
     simp [Instr.makeSlice, run_underlying hu, asInt, asIntOf, typeInfo, hi, hwl, hwc, hb1, hb2, hb3, hb4, sizeOf, hsz, hz', newRow]
    ·simp [Instr.makeSlice, run_underlying hu, asInt, asIntOf, typeInfo, hi, hwl, hwc, hb1, hb2, hb3, hb4, sizeOf, hsz, hcz, newRow, zeroValue, hz1]
   refine ⟨_, _, F, if c.toNat = 0 then [] else [w.heap.size], hrun, ?_, [.slice (some ⟨w.heap.size, 0, none⟩) l.toNat c.toNat], rfl, ?_⟩
   ·by_cases hcz : c.toNat = 0
    ·rw [if_pos hcz]; exact (Out.alloc h.lt _).drop
    ·rw [if_neg hcz]; exact Out.alloc h.lt _
   ·refine ⟨some ⟨w.heap.size, 0, none⟩, c.toNat, List.replicate l.toNat (zeroCells e1), List.replicate l.toNat [], by simp, by simp; omega, by simp, by simp, fun i hi1 h1 h2 => ?_, ?_⟩
    ·simp only [List.getElem_replicate]
     exact ⟨Rep.zero hd, hzl⟩
    ·by_cases hcz : c.toNat = 0
     ·exact .inr (.inl ⟨by decide, hcz, by simp [hcz]⟩)
     ·have hne : c.toNat * e1.sz ≠ 0 := Nat.mul_ne_zero hcz (by omega)
      refine .inr (.inr ⟨by decide, w.heap.size, 0, rfl, fun i hi1 j hj => ?_, ⟨_, E, alloc_heap, ?_⟩, ?_⟩)
      ·simp only [List.getElem_replicate] at hj ⊢
       simp only [List.length_replicate] at hi1
       rw [hzl] at hj
       have hlt : i * e1.sz + j < c.toNat * e1.sz := by
        have : (i + 1) * e1.sz ≤ c.toNat * e1.sz := Nat.mul_le_mul_right _ (by omega)
        rw [Nat.add_mul] at this
        omega
       rw [cell_new, Nat.zero_add, range_map_get hlt, if_neg hne, hzs]
       have hmod : (i * e1.sz + j) % e1.sz = j := by
        rw [Nat.mul_comm, Nat.mul_add_mod]
        exact Nat.mod_eq_of_lt hj
       rw [hmod]
       have : z.cells[j]! = (zeroCells e1)[j]'(by omega) := by
        simp only [← hzc]
        rw [getElem!_pos z.cells j (by omega)]
        simp
       rw [this]
      ·simp
      ·have : (List.replicate l.toNat ([] : List Nat)).flatten = [] := flatten_nil fun y hy => (List.mem_replicate.1 hy).2
       simp [hcz, this]
  ·simp at hev
 ·simp at hev
theorem evMove_sound (h : Fr P N w0 F0 G e a.tmps w F O) {tys : Tys} (ht : tys.ok P = true) {T : TypeId} {x : RS} {vx : Value} (hx : RSOk P G w F e a O x vx)
  {sup sup' : List Sup} {s : S} {obs : List Prop} (hev : evMove tys T x sup = some (s, obs, sup')) : SRep P G w F a.tmps e vx s [] := by
 unfold evMove at hev
 split at hev
 ·rename_i V n τ xv rr
  obtain ⟨⟨Or, hrep, _⟩, hrt, hslot⟩ := hx
  obtain ⟨hV, hvx⟩ := hslot V rfl
  obtain ⟨cs, hv, hr⟩ := hrep
  refine atPlace_sound (V := V) (p := []) (n := n) (t := ⟨τ, xv⟩) (l' := none) (sup := sup) (sup' := sup') (obs := obs) hev hv hr ⟨τ, cs, none, ?_, rfl, rfl, rfl⟩
  rw [hV, ← hvx]; exact ⟨rfl, hv, rfl⟩
 ·rename_i n τ xv rr
  obtain ⟨⟨Or, ⟨cs, hv, hr⟩, _⟩, hrt, hslot⟩ := hx
  split at hev
  ·rename_i hc
   simp only [Option.some.injEq, Prod.mk.injEq] at hev
   obtain ⟨rfl, rfl, rfl⟩ := hev
   exact ⟨cs, hv, (hr.zlv hc).2⟩
  ·simp at hev
 ·rename_i V rs rr
  obtain ⟨⟨Or, hrep, _⟩, hrt, hslot⟩ := hx
  obtain ⟨hV, hvx⟩ := hslot V rfl
  simp only [Option.some.injEq, Prod.mk.injEq] at hev
  obtain ⟨rfl, rfl, rfl⟩ := hev
  exact ⟨rfl, .inl ⟨by rw [hV]; rfl, rfl, hvx⟩⟩
 ·rename_i V n0 τ0 x0 p0 rr
  obtain ⟨⟨Or, hrep, _⟩, hrt, hslot⟩ := hx
  obtain ⟨hV, hvx⟩ := hslot V rfl
  simp only [Option.some.injEq, Prod.mk.injEq] at hev
  obtain ⟨rfl, rfl, rfl⟩ := hev
  exact ⟨rfl, .inl ⟨by rw [hV]; rfl, rfl, hvx⟩⟩
 ·obtain ⟨⟨Or, hrep, _⟩, hrt, hslot⟩ := hx
  split at hev
  ·rename_i e1 hT
   simp only [Option.some.injEq, Prod.mk.injEq] at hev
   obtain ⟨rfl, rfl, rfl⟩ := hev
   obtain ⟨_, rfl⟩ := hrep
   exact ⟨[_], rfl, none, 0, [], [], rfl, Nat.le_refl _, rfl, rfl, fun i hi => absurd hi (by simp), .inr (.inl ⟨by decide, rfl, rfl⟩)⟩
  ·simp at hev
 all_goals first
  |(simp only [Option.some.injEq, Prod.mk.injEq] at hev
    obtain ⟨rfl, rfl, rfl⟩ := hev
    obtain ⟨⟨Or, hrep, _⟩, hrt, hslot⟩ := hx
    exact ⟨rfl, hrep.2⟩)
  | simp at hev
theorem evLen_sound (h : Fr P N w0 F0 G e a.tmps w F O) {tys : Tys} (ht : tys.ok P = true) {T : TypeId} {x : RS} {vx : Value} (hx : RSOk P G w F e a O x vx) {ty : TypeId}
  {sup sup' : List Sup} {s : S} {obs : List Prop} (hev : evLen tys T x sup = some (s, obs, sup')) : Yld P w F G e a (Builtin.len_ #[T] ty #[vx]) s := by
 unfold evLen at hev
 split at hev
 ·rename_i e1 t rr hT
  simp only [qv, Option.some.injEq, Prod.mk.injEq] at hev
  obtain ⟨rfl, rfl, rfl⟩ := hev
  obtain ⟨E, hu, _⟩ := (tyAt_ok ht hT).slice
  obtain ⟨⟨Or, ⟨_, hrep⟩, _⟩, hrt, hslot⟩ := hx
  subst hrep
  exact Yld.same h (v := .int .i64 0) (by simp [Builtin.len_, run_underlying hu, goInt]) ⟨[_], rfl, rfl, rfl⟩
 ·rename_i e1 t V p lo hi rr hT
  simp only [qv, Option.some.injEq, Prod.mk.injEq] at hev
  obtain ⟨rfl, rfl, rfl⟩ := hev
  obtain ⟨E, hu, _⟩ := (tyAt_ok ht hT).slice
  obtain ⟨⟨Or, ⟨_, ad, len, cap, e', cs', l, hv, _, _, h1, h2, h3⟩, _⟩, hrt, hslot⟩ := hx
  have : (((hi - lo).toNat : Nat) : Int) = hi - lo := by omega
  refine Yld.same h (v := .int .i64 (hi - lo)) ?_ ⟨[_], rfl, rfl, rfl⟩
  rw [hv]
  simp [Builtin.len_, run_underlying hu, goInt]
  omega
 ·rename_i e1 hT _ _
  obtain ⟨E, hu, _⟩ := (tyAt_ok ht hT).slice
  split at hev
  ·rename_i e2 xs hr
   simp only [qv, Option.some.injEq, Prod.mk.injEq] at hev
   obtain ⟨rfl, rfl, rfl⟩ := hev
   obtain ⟨cs, k1, k2⟩ := rdv_sound h hx hr
   obtain ⟨ad, cap, css, Os, rfl, _⟩ := k2
   have k1' : [Value.slice ad xs.length cap] = [vx] := k1
   simp only [List.cons.injEq, and_true] at k1'
   subst k1'
   exact Yld.same h (v := .int .i64 (xs.length : Int)) (by simp [Builtin.len_, run_underlying hu, goInt]) ⟨[_], rfl, rfl, rfl⟩
  ·simp at hev
 ·rename_i hT
  split at hev
  ·rename_i st hr
   simp only [qv, Option.some.injEq, Prod.mk.injEq] at hev
   obtain ⟨rfl, rfl, rfl⟩ := hev
   have hvx := rdk_str h hx hr
   subst hvx
   exact Yld.same h (v := .int .i64 (st.size : Int)) (by simp [Builtin.len_, run_underlying (tyAt_ok ht hT).str, goInt]) ⟨[_], rfl, rfl, rfl⟩
  ·simp at hev
 ·simp at hev
def RSsOk (P : Program) (G : Nat × Bool → Bool) (w : World) (F : Nat → Prop) (e : Nat → S) (a : Act) (O : Nat → List Nat) : List RS → List Value → Prop
 | [], vs => vs = []
 | r :: rs, vs => ∃ v vs', vs = v :: vs' ∧ RSOk P G w F e a O r v ∧ RSsOk P G w F e a O rs vs'
theorem opds_ok (h : Fr P N w0 F0 G e a.tmps w F O) {ok : List (Nat × Bool)} (hok : ∀ g ∈ ok, G g = true) : ∀ (xs : List Operand), RSsOk P G w F e a O (xs.map (opd ok e)) (xs.map a.eval)
 | [] => rfl
 | x :: xs => ⟨_, _, rfl, opd_ok h hok x, opds_ok h hok xs⟩
theorem mm_sound (h : Fr P N w0 F0 G e a.tmps w F O) {isMax : Bool} {k : IntKind} : ∀ {rs : List RS} {vs : List Value} {x z : Int}, RSsOk P G w F e a O rs vs → mm isMax k x rs = some z →
  (vs.foldlM (if isMax then Builtin.max2 else Builtin.min2) (.int k x)).run P w = .ok (.int k z) w
 | [], vs, x, z, hr, hm => by
  subst hr
  simp only [mm, Option.some.injEq] at hm
  subst hm
  simp
 | r :: rs, vs, x, z, hr, hm => by
  obtain ⟨v, vs', rfl, hv, hr⟩ := hr
  simp only [mm] at hm
  split at hm
  ·rename_i k' y hk
   have hvx := rdInt_ok h hv hk
   subst hvx
   split at hm
   ·rename_i hkk
    subst hkk
    have := mm_sound h hr hm
    cases isMax
    ·simp only [Bool.false_eq_true, if_false] at this ⊢
     simp [Builtin.min2, this]
    ·simp only [if_true] at this ⊢
     simp [Builtin.max2, this]
   ·simp at hm
  ·simp at hm
theorem evMM_sound (h : Fr P N w0 F0 G e a.tmps w F O) {isMax : Bool} {rs : List RS} {vs : List Value} (hr : RSsOk P G w F e a O rs vs) {Ts : Array TypeId} {ty : TypeId}
  {sup sup' : List Sup} {s : S} {obs : List Prop} (hev : evMM isMax rs sup = some (s, obs, sup')) : Yld P w F G e a (if isMax then Builtin.max_ Ts ty vs.toArray else Builtin.min_ Ts ty vs.toArray) s := by
 unfold evMM at hev
 split at hev
 ·rename_i r rs
  obtain ⟨v, vs', rfl, hv, hr⟩ := hr
  split at hev
  ·rename_i k x hk
   have hvx := rdInt_ok h hv hk
   subst hvx
   split at hev
   ·rename_i z hm
    simp only [qv, Option.some.injEq, Prod.mk.injEq] at hev
    obtain ⟨rfl, rfl, rfl⟩ := hev
    have := mm_sound h hr hm
    refine Yld.same h (v := .int k z) ?_ ⟨[_], rfl, rfl, rfl⟩
    cases isMax
    ·simpa [Builtin.min_] using this
    ·simpa [Builtin.max_] using this
   ·simp at hev
  ·simp at hev
 ·simp at hev
theorem evExtract_sound (h : Fr P N w0 F0 G e a.tmps w F O) {i : Nat} {x : RS} {vx : Value} (hx : RSOk P G w F e a O x vx)
  {sup sup' : List Sup} {s : S} {obs : List Prop} (hev : evExtract i x sup = some (s, obs, sup')) : Yld P w F G e a (Instr.extract vx i) s := by
 have key : ∀ {V : Nat} {rs : List (Option Res)} {r : Res}, e V = .tup rs → vx = a.tmps.getD V undef → rs[i]? = some (some r) →
   (if zLv r.τ r.n then some (S.v 0 r.τ r.x, ([] : List Prop), sup) else some (.ext V i, [], sup)) = some (s, obs, sup') → Yld P w F G e a (Instr.extract vx i) s := by
  intro V rs r hV hv hri hev
  have hrep := h.rep V
  rw [hV] at hrep
  obtain ⟨vs, hvs, htup⟩ := hrep
  obtain ⟨v', cs, Oi, k1, k2, k3, k4⟩ := htup.at hri
  rw [hvs] at hv
  subst hv
  have hrun : (Instr.extract (.tuple vs.toArray) i).run P w = .ok v' w := by
   have : vs.toArray[i]? = some v' := by simpa using k1
   simp only [Instr.extract, this]
   rfl
  refine Yld.same h hrun ?_
  split at hev
  ·rename_i hc
   simp only [Option.some.injEq, Prod.mk.injEq] at hev
   obtain ⟨rfl, rfl, rfl⟩ := hev
   exact ⟨cs, k2, (k3.zlv hc).2⟩
  ·simp only [Option.some.injEq, Prod.mk.injEq] at hev
   obtain ⟨rfl, rfl, rfl⟩ := hev
   exact ⟨rfl, rs, vs.toArray, hV, hvs, by simpa using k1⟩
 unfold evExtract at hev
 split at hev
 ·rename_i t V rs
  obtain ⟨⟨Or, hrep, _⟩, hrt, hslot⟩ := hx
  simp only [roots, List.map_cons, List.map_nil, List.cons.injEq, and_true] at hrt
  obtain ⟨_, ⟨hrs, _, hv⟩ | ⟨τ', cs', l, hv, τ, cs, l0, hroot, hp⟩⟩ := hrep
  ·split at hev
   ·rename_i r hri
    exact key hrt.symm hv hri hev
   ·simp at hev
  ·rw [← hrt] at hroot
   exact hroot.elim
 ·rename_i V rs rr
  obtain ⟨⟨Or, hrep, _⟩, hrt, hslot⟩ := hx
  obtain ⟨hV, hvx⟩ := hslot V rfl
  split at hev
  ·rename_i r hri
   exact key hV hvx hri hev
  ·simp at hev
 ·simp at hev
theorem capSlots_map : ∀ {l : List Operand} {cs : List Nat}, capSlots l = some cs → l.map a.eval = cs.map fun t => a.tmps.getD t undef
 | [], cs, h => by simp only [capSlots, Option.some.injEq] at h; subst h; rfl
 | .tmp t :: r, cs, h => by
  simp only [capSlots, Option.map_eq_some_iff] at h
  obtain ⟨cs', h, rfl⟩ := h
  simp [Act.eval, capSlots_map h]
 | .const _ :: _, cs, h => by simp [capSlots] at h
 | .global _ :: _, cs, h => by simp [capSlots] at h
 | .func _ :: _, cs, h => by simp [capSlots] at h
theorem evPick_sound (h : Fr P N w0 F0 G e a.tmps w F O) {xo yo : Operand} {β : Bool} {x y : RS} {vx vy : Value} {sup sup' : List Sup} {s : S} {obs : List Prop}
  (hev : evPick xo yo (some β) x y sup = some (s, obs, sup')) (hx : β = true → RSOk P G w F e a O x vx) (hy : β = false → RSOk P G w F e a O y vy)
  (hcx : ∀ b, xo = .const (.bool b) → vx = .bool b) (hcy : ∀ b, yo = .const (.bool b) → vy = .bool b) :
  SRep P G w F a.tmps e (if β then vx else vy) s [] := by
 unfold evPick at hev
 split at hev
 ·rename_i β' u v hc h1 h2
  simp only [Option.some.injEq] at hc
  subst hc
  simp only [qv, Option.some.injEq, Prod.mk.injEq] at hev
  obtain ⟨rfl, rfl, rfl⟩ := hev
  refine ⟨[.bool (pickB β xo yo u v)], ?_, rfl, rfl⟩
  show [Value.bool (pickB β xo yo u v)] = [if β then vx else vy]
  congr 1
  have eu : β = true → vx = .bool u := fun hb => rdk_bool h (hx hb) h1
  have ev : β = false → vy = .bool v := fun hb => rdk_bool h (hy hb) h2
  have key : pickB β xo yo u v = if β then u else v := by
   unfold pickB
   split
   ·have := hcy false rfl
    cases β
    ·have := (ev rfl).symm.trans this; simp only [Value.bool.injEq] at this; simp [this]
    ·simp
   ·have := hcx true rfl
    cases β
    ·simp
    ·have := (eu rfl).symm.trans this; simp only [Value.bool.injEq] at this; simp [this]
   ·have := hcx false rfl
    cases β
    ·simp
    ·have := (eu rfl).symm.trans this; simp only [Value.bool.injEq] at this; simp [this]
   ·have := hcy true rfl
    cases β
    ·have := (ev rfl).symm.trans this; simp only [Value.bool.injEq] at this; simp [this]
    ·simp
   ·cases β <;> rfl
  rw [key]
  cases β
  ·simp [ev rfl]
  ·simp [eu rfl]
 ·rename_i β' τ u τ' v _ hc h1 h2
  simp only [Option.some.injEq] at hc
  subst hc
  split at hev
  ·rename_i hτ
   subst hτ
   split at hev
   ·rename_i hfl
    simp only [qv, Option.some.injEq, Prod.mk.injEq] at hev
    obtain ⟨rfl, rfl, rfl⟩ := hev
    cases β
    ·obtain ⟨cs, k1, k2⟩ := rdk_sound h (hy rfl) h2
     exact ⟨cs, by simpa using k1, by simpa using k2⟩
    ·obtain ⟨cs, k1, k2⟩ := rdk_sound h (hx rfl) h1
     exact ⟨cs, by simpa using k1, by simpa using k2⟩
   ·simp at hev
  ·simp at hev
 ·simp at hev
end
end Go.Tom
set_option linter.unusedVariables false
set_option linter.unusedSimpArgs false
namespace Go.Tom
open Go
theorem foldl_seg : ∀ (vs : List Value) (cells : Array Value) (off k : Nat), off + k + vs.length ≤ cells.size →
  ((vs.zipIdx k).foldl (fun cs (q : Value × Nat) => cs.setIfInBounds (off + q.2) q.1) cells).toList = cells.toList.take (off + k) ++ vs ++ cells.toList.drop (off + k + vs.length)
 | [], cells, off, k, _ => by simp
 | v :: vs, cells, off, k, h => by
  simp only [List.zipIdx_cons, List.foldl_cons]
  rw [foldl_seg vs _ off (k + 1) (by simp at h ⊢; omega)]
  have e := list_seg_step cells.toList (off + k) v vs (by simp at h ⊢; omega)
  simpa [Array.toList_setIfInBounds, Nat.add_assoc] using e
theorem fill_step {place : Nat → Option (Nat × Nat)} {cells : Array Value} {i off size : Nat} {v : Value} {rest : List (Nat × Value)} (hp : place i = some (off, size)) (hs : v.cells.size = size) (ho : off + size ≤ cells.size) :
  ∃ c', Instr.fill place cells ((i, v) :: rest) = Instr.fill place c' rest ∧ c'.toList = cells.toList.take off ++ v.cells.toList ++ cells.toList.drop (off + size) := by
 refine ⟨_, by simp only [Instr.fill, hp]; rw [if_neg (by simp [hs]; omega)], ?_⟩
 have := foldl_seg v.cells.toList cells off 0 (by simp [hs]; omega)
 simp only [Nat.add_zero, Array.length_toList, hs] at this
 rw [← this]
 congr 1
 rw [← Array.foldl_toList, Array.toList_zipIdx]
section
variable {P : Program} {N : Nat} {w0 : Start} {w : World} {F0 F : Nat → Prop} {G : Nat × Bool → Bool} {e : Nat → S} {a : Act} {O : Nat → List Nat}
def OptOk (P : Program) (G : Nat × Bool → Bool) (w : World) (F : Nat → Prop) (e : Nat → S) (a : Act) (O : Nat → List Nat) : Option RS → Option Value → Prop
 | none, v => v = none
 | some r, v => ∃ x, v = some x ∧ RSOk P G w F e a O r x
theorem boundOr_ok (h : Fr P N w0 F0 G e a.tmps w F O) {r : Option RS} {v : Option Value} (hr : OptOk P G w F e a O r v) {d l : Int} (hb : boundOr d r = some l) : (v = none ∧ l = d) ∨ ∃ k, v = some (.int k l) := by
 cases r with
 | none =>
  simp only [boundOr, Option.some.injEq] at hb
  exact .inl ⟨hr, hb.symm⟩
 | some r =>
  obtain ⟨x, rfl, hx⟩ := hr
  simp only [boundOr] at hb
  split at hb
  ·rename_i k i hk
   simp only [Option.some.injEq] at hb
   subst hb
   exact .inr ⟨k, by rw [rdInt_ok h hx hk]⟩
  ·simp at hb
theorem run_sliceBound {k : IntKind} {i : Int} {y : Nat} {code : BoundsCode} (h0 : 0 ≤ i) (h1 : i ≤ (y : Int)) : (Instr.sliceBound (.int k i) y code).run P w = .ok i.toNat w := by
 simp [Instr.sliceBound, asIntOf, h0, h1]
theorem run_slice {T : TypeId} {e1 : Ty} (h : TyOk P T (.slice e1)) {ad : Option Addr} {len cap : Nat} {lo hi : Option Value} {l r : Int} (hl : (lo = none ∧ l = 0) ∨ ∃ k, lo = some (.int k l)) (hh : (hi = none ∧ r = (len : Int)) ∨ ∃ k, hi = some (.int k r))
  (h0 : 0 ≤ l) (h1 : l ≤ r) (h2 : r ≤ (len : Int)) (hc : len ≤ cap) :
  (Instr.sliceAt T (.slice ad len cap) lo hi none).run P w = .ok (.slice (if cap = l.toNat then ad else ad.map fun q => q.add (l.toNat * e1.sz)) (r - l).toNat (cap - l.toNat)) w := by
 obtain ⟨E, hu, hE⟩ := h.slice
 have hsub : r.toNat - l.toNat = (r - l).toNat := by omega
 have hb : (Instr.sliceBounds true len cap lo hi none).run P w = .ok (l.toNat, r.toNat, cap) w := by
  rcases hl with ⟨rfl, rfl⟩ | ⟨k, rfl⟩ <;> rcases hh with ⟨rfl, rfl⟩ | ⟨k', rfl⟩
  ·simp [Instr.sliceBounds]
  ·simp [Instr.sliceBounds, run_sliceBound (P := P) (w := w) (k := k') (y := cap) (by omega : 0 ≤ r) (by omega)]
  ·simp [Instr.sliceBounds, run_sliceBound (P := P) (w := w) (k := k) (y := len) h0 (by omega)]
  ·simp [Instr.sliceBounds, run_sliceBound (P := P) (w := w) (k := k') (y := cap) (by omega : 0 ≤ r) (by omega), run_sliceBound (P := P) (w := w) (k := k) (i := l) (y := r.toNat) h0 (by omega)]
 simp [Instr.sliceAt, Instr.slice, run_underlying hu, hb, hE.size, hsub]
theorem run_slice_str {T : TypeId} (h : TyOk P T .str) {s : ByteArray} {lo hi : Option Value} {l r : Int} (hl : (lo = none ∧ l = 0) ∨ ∃ k, lo = some (.int k l)) (hh : (hi = none ∧ r = (s.size : Int)) ∨ ∃ k, hi = some (.int k r))
  (h0 : 0 ≤ l) (h1 : l ≤ r) (h2 : r ≤ (s.size : Int)) : (Instr.sliceAt T (.string s) lo hi none).run P w = .ok (.string (sls s l r)) w := by
 have hu := h.str
 have hb : (Instr.sliceBounds false s.size s.size lo hi none).run P w = .ok (l.toNat, r.toNat, s.size) w := by
  rcases hl with ⟨rfl, rfl⟩ | ⟨k, rfl⟩ <;> rcases hh with ⟨rfl, rfl⟩ | ⟨k', rfl⟩
  ·simp [Instr.sliceBounds]
  ·simp [Instr.sliceBounds, run_sliceBound (P := P) (w := w) (k := k') (y := s.size) (by omega : 0 ≤ r) (by omega)]
  ·simp [Instr.sliceBounds, run_sliceBound (P := P) (w := w) (k := k) (y := s.size) h0 (by omega)]
  ·simp [Instr.sliceBounds, run_sliceBound (P := P) (w := w) (k := k') (y := s.size) (by omega : 0 ≤ r) (by omega), run_sliceBound (P := P) (w := w) (k := k) (i := l) (y := r.toNat) h0 (by omega)]
 simp [Instr.sliceAt, Instr.slice, run_underlying hu, hb, sls]
theorem sl_length {α : Type} {xs : List α} {l h : Int} (h0 : 0 ≤ l) (h1 : l ≤ h) (h2 : h ≤ (xs.length : Int)) : (sl xs l h).length = (h - l).toNat := by
 simp only [sl, List.length_drop, List.length_take]; omega
theorem evSlice_sound (h : Fr P N w0 F0 G e a.tmps w F O) {tys : Tys} (ht : tys.ok P = true) {T : TypeId} {x : RS} {vx : Value} (hx : RSOk P G w F e a O x vx) {lo hi mx : Option RS} {vlo vhi vmx : Option Value}
  (hlo : OptOk P G w F e a O lo vlo) (hhi : OptOk P G w F e a O hi vhi) (hmx : OptOk P G w F e a O mx vmx)
  {sup sup' : List Sup} {s : S} {obs : List Prop} (hev : evSlice tys T x lo hi mx sup = some (s, obs, sup')) (hobs : ∀ p ∈ obs, p) : Yld P w F G e a (Instr.sliceAt T vx vlo vhi vmx) s := by
 unfold evSlice at hev
 split at hev
 ·rename_i e1 r m hT
  obtain ⟨vm, rfl, hm⟩ := hmx
  split at hev
  ·rename_i e2 xs k hr hl hh hmm
   simp only [Option.some.injEq, Prod.mk.injEq] at hev
   obtain ⟨rfl, rfl, rfl⟩ := hev
   obtain ⟨cs, k1, k2⟩ := rdv_sound h hx hr
   obtain ⟨ad, cap, css, Os, rfl, hcap, _⟩ := k2
   have k1' : [Value.slice ad xs.length cap] = [vx] := k1
   simp only [List.cons.injEq, and_true] at k1'
   subst k1'
   have hvm := rdInt_ok h hm hmm
   subst hvm
   obtain ⟨E, hu, hE⟩ := (tyAt_ok ht hT).slice
   cases hi with
   | none => simp at hh
   | some hi =>
    simp only [Option.bind_some] at hh
    rcases boundOr_ok h hhi hh with ⟨hc, _⟩ | ⟨k', hvh⟩
    ·obtain ⟨_, hc', _⟩ := hhi; rw [hc'] at hc; simp at hc
    ·subst hvh
     have hlv := boundOr_ok h hlo hl
     have z1 : ∀ y code, (Instr.sliceBound (.int k 0) y code).run P w = .ok 0 w := fun y code => by
      have := run_sliceBound (P := P) (w := w) (k := k) (i := 0) (y := y) (code := code) (by omega) (by omega)
      simpa using this
     have z2 : ∀ y code, (Instr.sliceBound (.int k' 0) y code).run P w = .ok 0 w := fun y code => by
      have := run_sliceBound (P := P) (w := w) (k := k') (i := 0) (y := y) (code := code) (by omega) (by omega)
      simpa using this
     have hb : (Instr.sliceBounds true xs.length cap vlo (some (.int k' 0)) (some (.int k 0))).run P w = .ok (0, 0, 0) w := by
      rcases hlv with ⟨rfl, _⟩ | ⟨k'', rfl⟩
      ·simp [Instr.sliceBounds, z1, z2]
      ·have z3 : ∀ y code, (Instr.sliceBound (.int k'' 0) y code).run P w = .ok 0 w := fun y code => by
        have := run_sliceBound (P := P) (w := w) (k := k'') (i := 0) (y := y) (code := code) (by omega) (by omega)
        simpa using this
       simp [Instr.sliceBounds, z1, z2, z3]
     refine Yld.same h (v := .slice ad 0 0) (by simp [Instr.sliceAt, Instr.slice, run_underlying hu, hb, hE.size]) ⟨[_], rfl, ad, 0, [], [], rfl, Nat.le_refl _, rfl, rfl, fun i hi => absurd hi (by simp), .inr (.inl ⟨by decide, rfl, rfl⟩)⟩
  ·simp at hev
 ·rename_i e1 t e2 xs rr hT
  split at hev
  ·rename_i he
   subst he
   split at hev
   ·rename_i l r hl hh
    simp only [Option.some.injEq, Prod.mk.injEq] at hev
    obtain ⟨rfl, rfl, rfl⟩ := hev
    obtain ⟨h0, h1, h2⟩ := hobs _ (List.mem_singleton.2 rfl)
    have hmx' : vmx = none := hmx
    subst hmx'
    obtain ⟨⟨Or, ⟨cs, hv, hr⟩, _⟩, hrt, hslot⟩ := hx
    obtain ⟨ad, cap, css, Os, rfl, hcap, hcl, hol, hr, hs⟩ := hr
    have hv' : [Value.slice ad xs.length cap] = [vx] := hv
    simp only [List.cons.injEq, and_true] at hv'
    subst hv'
    have hlen := sl_length h0 h1 h2
    refine Yld.same h (run_slice (tyAt_ok ht hT) (boundOr_ok h hlo hl) (boundOr_ok h hhi hh) h0 h1 h2 hcap) ⟨[_], rfl, _, cap - l.toNat, (css.take r.toNat).drop l.toNat, List.replicate (r - l).toNat [], by rw [hlen], by rw [hlen]; omega, by simp [hlen]; omega, by simp [hlen], fun i hi hi1 hi2 => ?_, .inl ⟨rfl, (flatten_nil fun y hy => (List.mem_replicate.1 hy).2).symm, ?_⟩⟩
    ·rw [hlen] at hi
     obtain ⟨k1, k2⟩ := hr (l.toNat + i) (by omega) (by omega) (by omega)
     have hz := k1.zero_nil
     rw [hz] at k1
     simp only [sl, List.getElem_drop, List.getElem_take, List.getElem_replicate]
     exact ⟨k1, k2⟩
    ·rcases hs with ⟨_, _, hs | ⟨b, o, rfl, hF, hat⟩⟩ | ⟨hn, _⟩ | ⟨hn, _⟩
     ·left
      subst hs
      apply List.eq_nil_of_length_eq_zero
      rw [hlen]; simp at h2; omega
     ·by_cases hcl' : cap = l.toNat
      ·left
       apply List.eq_nil_of_length_eq_zero
       rw [hlen]; omega
      ·right
       refine ⟨b, o + l.toNat * e2.sz, by simp [hcl', add_at], hF, fun i hi => ?_⟩
       simp only [List.length_drop, List.length_take] at hi
       simp only [List.getElem_drop, List.getElem_take]
       have := hat (l.toNat + i) (by omega)
       rwa [Nat.add_mul, ← Nat.add_assoc] at this
     ·exact absurd hn (by decide)
     ·exact absurd hn (by decide)
   ·simp at hev
  ·simp at hev
 ·rename_i r hT
  split at hev
  ·rename_i st hk
   have hvx := rdk_str h hx hk
   subst hvx
   have hmx' : vmx = none := hmx
   subst hmx'
   split at hev
   ·rename_i l r hl hh
    simp only [Option.some.injEq, Prod.mk.injEq] at hev
    obtain ⟨rfl, rfl, rfl⟩ := hev
    obtain ⟨h0, h1, h2⟩ := hobs _ (List.mem_singleton.2 rfl)
    exact Yld.same h (run_slice_str (tyAt_ok ht hT) (boundOr_ok h hlo hl) (boundOr_ok h hhi hh) h0 h1 h2) ⟨[_], rfl, rfl, rfl⟩
   ·simp at hev
  ·simp at hev
 ·rename_i e1 t V p r hT
  obtain ⟨⟨Or, hrep, _⟩, hrt, hslot⟩ := hx
  simp only [roots, List.map_cons, List.map_nil, List.cons.injEq, and_true] at hrt
  subst hrt
  have hmx' : vmx = none := hmx
  subst hmx'
  obtain ⟨_, ⟨hrs, _, _⟩ | ⟨τ', cs', l', hv, hp⟩⟩ := hrep
  ·cases heV : e V <;> rw [heV] at hev hrs <;> simp [rootGet, passive] at hev hrs
  ·split at hev
   ·rename_i n e2 xs hg
    obtain ⟨O'', hr, hat, rfl⟩ := h.place hp hg
    split at hev
    ·rename_i he
     obtain ⟨he, _⟩ := he
     subst he
     split at hev
     ·rename_i l r hl hh
      simp only [Option.some.injEq, Prod.mk.injEq] at hev
      obtain ⟨rfl, rfl, rfl⟩ := hev
      obtain ⟨h0, h1, h2⟩ := hobs _ (List.mem_singleton.2 rfl)
      have hr' : Rep P (.slice e2) n w F xs cs' O'' := hr
      clear hr
      obtain ⟨ad, cap, css, Os, rfl, hcap, hcl, hol, hr, hs⟩ := hr'
      have hv' : [Value.slice ad xs.length cap] = [vx] := hv
      simp only [List.cons.injEq, and_true] at hv'
      subst hv'
      exact Yld.same h (run_slice (tyAt_ok ht hT) (boundOr_ok h hlo hl) (boundOr_ok h hhi hh) h0 h1 h2 hcap) ⟨rfl, ad, xs.length, cap, e2, _, l', rfl, hp, rfl, h0, h1, h2⟩
     ·simp at hev
    ·simp at hev
   ·simp at hev
 ·simp at hev
def PartsOk (P : Program) (G : Nat × Bool → Bool) (w : World) (F : Nat → Prop) (e : Nat → S) (a : Act) (O : Nat → List Nat) : List (Nat × RS) → List (Nat × Value) → Prop
 | [], vs => vs = []
 | q :: ps, vs => ∃ v vs', vs = (q.1, v) :: vs' ∧ RSOk P G w F e a O q.2 v ∧ PartsOk P G w F e a O ps vs'
theorem parts_ok (h : Fr P N w0 F0 G e a.tmps w F O) {ok : List (Nat × Bool)} (hok : ∀ g ∈ ok, G g = true) : ∀ (xs : List (Nat × Operand)), PartsOk P G w F e a O (xs.map fun q => (q.1, opd ok e q.2)) (xs.map fun q => (q.1, a.eval q.2))
 | [] => rfl
 | x :: xs => ⟨_, _, rfl, opd_ok h hok x.2, parts_ok h hok xs⟩
theorem cast?_eq {τ : Ty} {t : TV} {x : τ.den} (h : cast? τ t = some x) : t = ⟨τ, x⟩ := by
 unfold cast? at h
 split at h
 ·rename_i ht
  obtain ⟨σ, y⟩ := t
  simp only at ht
  subst ht
  simp only [Option.some.injEq] at h
  rw [← h]
 ·simp at h
theorem buildSlice_fill (h : Fr P N w0 F0 G e a.tmps w F O) {E : Ty} : ∀ {ps : List (Nat × RS)} {vs : List (Nat × Value)} {k : Nat} {xs : List E.den} {cells : Array Value} {dn rest : List Value}, PartsOk P G w F e a O ps vs → evBuildSlice E k ps = some xs →
  cells.toList = dn ++ rest → dn.length = k * E.sz → rest.length = ps.length * E.sz →
  ∃ (c' : Array Value) (css : List (List Value)), Instr.fill (fun i => some (i * E.sz, E.sz)) cells vs = some c' ∧ c'.toList = dn ++ css.flatten ∧ css.length = xs.length ∧ xs.length = ps.length ∧
   ∀ i (h1 : i < xs.length) (h2 : i < css.length), Rep P E 0 w F xs[i] css[i] [] ∧ css[i].length = E.sz
 | [], vs, k, xs, cells, dn, rest, hp, hb, hc, hd, hr => by
  have hvs : vs = [] := hp
  subst hvs
  simp only [evBuildSlice, Option.some.injEq] at hb
  subst hb
  have : rest = [] := List.eq_nil_of_length_eq_zero (by simpa using hr)
  subst this
  exact ⟨cells, [], rfl, by simpa using hc, rfl, rfl, fun i h1 => absurd h1 (by simp)⟩
 |(j, r) :: ps, vs, k, xs, cells, dn, rest, hp, hb, hc, hd, hr => by
  obtain ⟨v, vs', rfl, hv, hp⟩ := hp
  simp only [evBuildSlice] at hb
  split at hb
  ·rename_i hk
   have hk' := Nat.eq_of_beq_eq_true hk
   subst hk'
   split at hb
   ·rename_i t hrd
    split at hb
    ·rename_i x xs' hct hbs
     simp only [Option.some.injEq] at hb
     subst hb
     have := cast?_eq hct
     subst this
     obtain ⟨cs, g1, g2⟩ := rdk_sound h hv hrd
     have hcs : v.cells.toList = cs := g1.cells g2
     have hlen : cs.length = E.sz := g2.length
     have hsz : v.cells.size = E.sz := by rw [← Array.length_toList, hcs, hlen]
     simp only [List.length_cons, Nat.add_mul, Nat.one_mul] at hr
     have hsize : cells.size = dn.length + rest.length := by rw [← Array.length_toList, hc]; simp
     obtain ⟨c1, q1, q2⟩ := fill_step (place := fun i => some (i * E.sz, E.sz)) (cells := cells) (i := k) (v := v) (rest := vs') rfl hsz (by omega)
     have hc1 : c1.toList = (dn ++ cs) ++ rest.drop E.sz := by
      rw [q2, hc, hcs, ← hd, List.take_left]
      congr 1
      rw [List.drop_append, List.drop_eq_nil_of_le (by omega)]
      simp
     obtain ⟨c', css, p1, p2, p3, p4, p5⟩ := buildSlice_fill h hp hbs hc1 (by simp [hd, hlen, Nat.add_mul]) (by simp; omega)
     refine ⟨c', cs :: css, by rw [q1]; exact p1, by simp [p2], by simp [p3], by simp [p4], fun i h1 h2 => ?_⟩
     cases i with
     | zero => exact ⟨g2, hlen⟩
     | succ i => exact p5 i (by simpa using h1) (by simpa using h2)
    ·simp at hb
   ·simp at hb
  ·simp at hb
theorem flatten_at {w : World} {b : Nat} {sz : Nat} : ∀ {css : List (List Value)} {o : Nat}, (∀ i (h : i < css.length), css[i].length = sz) → At w b o css.flatten → ∀ i (h : i < css.length), At w b (o + i * sz) css[i]
 | [], o, _, _, i, h => by simp at h
 | c :: css, o, hl, hat, i, h => by
  rw [List.flatten_cons, At.append] at hat
  cases i with
  | zero => simpa using hat.1
  | succ i =>
   have hc : c.length = sz := hl 0 (by simp)
   have := flatten_at (o := o + c.length) (fun i h => hl (i + 1) (by simpa using h)) hat.2 i (by simpa using h)
   rw [hc] at this
   simp only [List.getElem_cons_succ]
   rwa [Nat.add_mul, Nat.one_mul, Nat.add_comm (i * sz), ← Nat.add_assoc]
theorem evBuildSlice_sound (h : Fr P N w0 F0 G e a.tmps w F O) {tys : Tys} (ht : tys.ok P = true) {T : TypeId} {E : Ty} (hT : tyAt tys T = some (.slice E)) (hd : E.data = true) {n : Nat} (hn : n * E.sz ≤ 16777216)
  {ps : List (Nat × RS)} {vs : List (Nat × Value)} (hp : PartsOk P G w F e a O ps vs) (hl : ps.length = n) {xs : List E.den} (hb : evBuildSlice E 0 ps = some xs) :
  Yld P w F G e a (Instr.buildSlice T n vs.toArray) (.v (if E.flat then 9 else 1) (.slice E) xs) := by
 obtain ⟨Ei, hu, hE⟩ := (tyAt_ok ht hT).slice
 obtain ⟨z, hz1, hz2⟩ := hE.zeroV (w := w) hd
 have hzc : z.cells.toList = zeroCells E := hz2.cells (Rep.zero (P := P) (n := 0) (w := w) (F := F) hd)
 have hzl : (zeroCells E).length = E.sz := (Rep.zero (P := P) (n := 0) (w := w) (F := F) hd).length
 have hzs : z.cells.size = E.sz := by rw [← Array.length_toList, hzc, hzl]
 have hpos := E.sz_pos
 let c0 : Array Value := (Array.range (n * E.sz)).map ((if n * E.sz = 0 then #[] else z.cells)[· % (if n * E.sz = 0 then #[] else z.cells).size]!)
 have hc0 : c0.size = n * E.sz := by simp [c0]
 obtain ⟨c', css, p1, p2, p3, p4, p5⟩ := buildSlice_fill h hp hb (cells := c0) (dn := []) (rest := c0.toList) (by simp) (by simp) (by simp [hc0, hl])
 have hrun : (Instr.buildSlice T n vs.toArray).run P w = .ok (.slice (some ⟨w.heap.size, 0, none⟩) n n) (w.alloc (.cells c' Ei)) := by
  by_cases hcz : n * E.sz = 0
  ·have hn0 : n = 0 := by
    rcases Nat.mul_eq_zero.1 hcz with h | h
    ·exact h
    ·omega
   subst hn0
   simp only [c0, Nat.zero_mul, if_true] at p1
   simp [Instr.buildSlice, run_underlying hu, hE.size, newRow]
   simp at p1
   rw [p1]
   simp
  ·have hn0 : ¬ (n = 0 ∨ E.sz = 0) := by rw [← Nat.mul_eq_zero]; exact hcz
   simp only [c0, hcz, if_false] at p1
   have hle : ¬ (16777216 < n * E.sz) := by omega
   simp [Instr.buildSlice, run_underlying hu, hE.size, newRow, hn0, hz1, hle, p1]
   intro hc
   exact absurd hc hcz
 have hxl : xs.length = n := by rw [p4, hl]
 obtain ⟨hext, hold⟩ := h.ext (Out.alloc h.lt (.cells c' Ei))
 have hrep : ∀ i (h1 : i < xs.length) (h2 : i < css.length), Rep P E 0 (w.alloc (.cells c' Ei)) F xs[i] css[i] [] ∧ css[i].length = E.sz := by
  intro i h1 h2
  obtain ⟨r1, r2⟩ := p5 i h1 h2
  exact ⟨r1.mono hext (fun b hb => by cases hb), r2⟩
 have hat : At (w.alloc (.cells c' Ei)) w.heap.size 0 css.flatten := by
  intro j hj
  rw [cell_new, Nat.zero_add, ← Array.getElem?_toList, p2, List.nil_append]
  simp
 have hats := fun i (hi : i < css.length) => flatten_at (fun i hi => (hrep i (by omega) hi).2) hat i hi
 have hcs : c'.size = n * E.sz := by
  rw [← Array.length_toList, p2]
  simp only [List.nil_append, List.length_flatten]
  have : ∀ (l : List (List Value)), (∀ i (h : i < l.length), l[i].length = E.sz) → (l.map List.length).sum = l.length * E.sz := by
   intro l
   induction l with
   | nil => intro _; simp
   | cons c l ih =>
    intro hh
    simp only [List.map_cons, List.sum_cons, List.length_cons, Nat.add_mul, Nat.one_mul]
    rw [ih fun i hi => hh (i + 1) (by simpa using hi)]
    have := hh 0 (by simp)
    simp only [List.getElem_cons_zero] at this
    omega
  rw [this css fun i hi => (hrep i (by omega) hi).2, p3, hxl]
 have hout : Out w F (w.alloc (.cells c' Ei)) F (if n = 0 then [] else [w.heap.size]) := by
  by_cases hn0 : n = 0
  ·rw [if_pos hn0]; exact (Out.alloc h.lt _).drop
  ·rw [if_neg hn0]; exact Out.alloc h.lt _
 have hnil : (List.replicate n ([] : List Nat)).flatten = [] := flatten_nil fun y hy => (List.mem_replicate.1 hy).2
 refine ⟨_, _, F, _, hrun, hout, [_], rfl, some ⟨w.heap.size, 0, none⟩, n, css, List.replicate n [], by rw [hxl], by omega, by omega, by simp [hxl], fun i h1 h2 h3 => ?_, ?_⟩
 ·obtain ⟨r1, r2⟩ := hrep i h1 h2
  refine ⟨?_, r2⟩
  rw [List.getElem_replicate]
  by_cases hf : E.flat = true
  ·exact (r1.flat hf).2 _ _ _
  ·simp only [hf, Bool.false_eq_true, if_false]
   exact r1
 ·have hpos' : 0 < (if E.flat = true then (9 : Lv) else 1).k := by split <;> decide
  by_cases hn0 : n = 0
  ·exact .inr (.inl ⟨hpos', hn0, by rw [if_pos hn0]⟩)
  ·refine .inr (.inr ⟨hpos', w.heap.size, 0, rfl, hats, ⟨c', Ei, alloc_heap, by rw [hcs]; omega⟩, by rw [if_neg hn0, hnil]⟩)
end
end Go.Tom
set_option linter.unusedVariables false
set_option linter.unusedSimpArgs false
namespace Go.Tom
open Go
theorem fld_apart : ∀ {a a1 a2 : Ty} {i j : Nat}, fldTy a i = some a1 → fldTy a j = some a2 → i < j → fldOff a i + a1.sz ≤ fldOff a j := by
 intro a
 induction a with
 | prod a b iha ihb =>
  intro a1 a2 i j h1 h2 hlt
  cases j with
  | zero => omega
  | succ j =>
   cases i with
   | zero => simp only [fldTy, Option.some.injEq] at h1; subst h1; simp [fldOff]
   | succ i => have := ihb h1 h2 (by omega); simp only [fldOff]; omega
 | _ =>
  intro a1 a2 i j h1 h2 hlt
  cases j with
  | zero => omega
  | succ j => simp [fldTy] at h2
theorem zeroCells_seg {a a1 : Ty} {i : Nat} (hd : a.data = true) (h : fldTy a i = some a1) : ((zeroCells a).drop (fldOff a i)).take a1.sz = zeroCells a1 := by
 have hz : ∀ {b : Ty}, b.data = true → (zeroCells b).length = b.sz := fun {b} hb => (Rep.zero (P := default) (n := 0) (w := default) (F := fun _ => False) hb).length
 induction a generalizing i with
 | prod a b iha ihb =>
  simp only [Ty.data, Bool.and_eq_true] at hd
  cases i with
  | zero =>
   simp only [fldTy, Option.some.injEq] at h
   subst h
   simp only [fldOff, List.drop_zero, zeroCells]
   rw [List.take_append_of_le_length (by rw [hz hd.1]; exact Nat.le_refl _), List.take_of_length_le (by rw [hz hd.1]; exact Nat.le_refl _)]
  | succ i =>
   simp only [fldOff, zeroCells]
   rw [List.drop_append, List.drop_eq_nil_of_le (by rw [hz hd.1]; omega), hz hd.1, List.nil_append]
   rw [show a.sz + fldOff b i - a.sz = fldOff b i from by omega]
   exact ihb hd.2 h
 | _ =>
  cases i <;> simp only [fldTy, Option.some.injEq, reduceCtorEq] at h
  subst h
  simp only [fldOff, List.drop_zero]
  exact List.take_of_length_le (by rw [hz hd]; exact Nat.le_refl _)
def seg (a : Ty) (i : Nat) (a1 : Ty) (cs : List Value) : List Value := (cs.drop (fldOff a i)).take a1.sz
theorem seg_put {a a1 a2 : Ty} {i j : Nat} {cs : List Value} {vs : List Value} (h1 : fldTy a i = some a1) (h2 : fldTy a j = some a2) (hl : vs.length = a1.sz) (hc : cs.length = a.sz) :
  seg a j a2 (cs.take (fldOff a i) ++ vs ++ cs.drop (fldOff a i + a1.sz)) = if i = j then vs else seg a j a2 cs := by
 have hi := fld_in h1
 have hj := fld_in h2
 have hmin : min (fldOff a i) cs.length = fldOff a i := by omega
 have hmin' : min (fldOff a i) cs.length ≤ fldOff a i := by omega
 by_cases hij : i = j
 ·subst hij
  rw [h1] at h2
  obtain rfl := Option.some.inj h2
  simp only [seg, if_true]
  rw [List.append_assoc, List.drop_append, List.drop_eq_nil_of_le (by simp; omega)]
  simp only [List.length_take, hmin, Nat.sub_self, List.drop_zero, List.nil_append]
  rw [List.take_append_of_le_length (by omega), List.take_of_length_le (by omega)]
 ·rw [if_neg hij]
  have hlen : (cs.take (fldOff a i) ++ vs ++ cs.drop (fldOff a i + a1.sz)).length = cs.length := by simp; omega
  apply List.ext_getElem?
  intro k
  simp only [seg, List.getElem?_take, List.getElem?_drop]
  by_cases hk : k < a2.sz
  ·simp only [hk, if_true]
   rcases Nat.lt_or_gt_of_ne hij with hlt | hlt
   ·have := fld_apart h1 h2 hlt
    rw [List.getElem?_append_right (by simp; omega)]
    simp only [List.length_append, List.length_take, hmin, hl, List.getElem?_drop]
    congr 1
    omega
   ·have := fld_apart h2 h1 hlt
    rw [List.append_assoc, List.getElem?_append_left (by simp; omega)]
    rw [List.getElem?_take_of_lt (by omega)]
  ·simp [hk]
theorem any_beq {i : Nat} : ∀ {l : List Nat}, l.any (Nat.beq i) = true ↔ i ∈ l
 | [] => by simp
 | j :: l => by
  simp only [List.any_cons, Bool.or_eq_true, List.mem_cons, any_beq (l := l)]
  constructor
  ·rintro (h | h)
   ·exact .inl (Nat.eq_of_beq_eq_true h)
   ·exact .inr h
  ·rintro (h | h)
   ·exact .inl (by subst h; exact Nat.beq_refl _)
   ·exact .inr h
section
variable {P : Program} {N : Nat} {w0 : Start} {w : World} {F0 F : Nat → Prop} {G : Nat × Bool → Bool} {e : Nat → S} {a : Act} {O : Nat → List Nat}
theorem fill_struct {b : Ty} {place : Nat → Option (Nat × Nat)} (hpl : ∀ i b1, fldTy b i = some b1 → place i = some (fldOff b i, b1.sz)) : ∀ {vs : List (Nat × Value)} {cells : Array Value}, cells.size = b.sz → distinct (vs.map (·.1)) = true →
  (∀ q ∈ vs, ∃ b1, fldTy b q.1 = some b1 ∧ q.2.cells.size = b1.sz) →
  ∃ c', Instr.fill place cells vs = some c' ∧ c'.size = b.sz ∧ ∀ j b2, fldTy b j = some b2 → seg b j b2 c'.toList = (match vs.find? fun q => Nat.beq q.1 j with | some q => q.2.cells.toList | none => seg b j b2 cells.toList)
 | [], cells, hs, _, _ => ⟨cells, rfl, hs, fun j b2 h => rfl⟩
 |(i, v) :: vs, cells, hs, hd, hv => by
  obtain ⟨b1, h1, h2⟩ := hv (i, v) (List.mem_cons_self ..)
  simp only [List.map_cons, distinct, Bool.and_eq_true, Bool.not_eq_true'] at hd
  have hin := fld_in h1
  simp only at hin h1 h2
  obtain ⟨c1, p1, p2⟩ := fill_step (place := place) (cells := cells) (i := i) (v := v) (rest := vs) (hpl i b1 h1) h2 (by omega)
  have hc1 : c1.size = b.sz := by
   rw [← Array.length_toList, p2]; simp [h2]; omega
  obtain ⟨c', q1, q2, q3⟩ := fill_struct hpl hc1 hd.2 (fun q hq => hv q (List.mem_cons_of_mem _ hq))
  refine ⟨c', by rw [p1]; exact q1, q2, fun j b2 hj => ?_⟩
  rw [q3 j b2 hj]
  have hni : i ∉ vs.map (·.1) := fun hc => by rw [any_beq.2 hc] at hd; simp at hd
  simp only [List.find?_cons]
  by_cases hij : Nat.beq i j = true
  ·have hij' := Nat.eq_of_beq_eq_true hij
   subst hij'
   simp only [hij]
   have hnf : vs.find? (fun q => Nat.beq q.1 i) = none := by
    rw [List.find?_eq_none]
    intro q hq hc
    have := Nat.eq_of_beq_eq_true hc
    exact hni (List.mem_map.2 ⟨q, hq, this⟩)
   rw [hnf]
   simp only
   rw [p2, seg_put h1 hj (by simp [h2]) (by simp [hs]), if_pos rfl]
  ·simp only [Bool.not_eq_true] at hij
   simp only [hij]
   cases hf : vs.find? fun q => Nat.beq q.1 j with
   | some q => rfl
   | none =>
    have hne : i ≠ j := fun hc => by subst hc; rw [Nat.beq_refl] at hij; simp at hij
    simp only
    rw [p2, seg_put h1 hj (by simp [h2]) (by simp [hs]), if_neg hne]
theorem evPart_rep (h : Fr P N w0 F0 G e a.tmps w F O) {ps : List (Nat × RS)} {c0 : List Value} {τ : Ty} {i : Nat} {x : τ.den} (hx : evPart τ i ps = some x)
  (hseg : match ps.find? fun q => Nat.beq q.1 i with
   | some q => ∃ v, RSOk P G w F e a O q.2 v ∧ v.cells.toList = c0
   | none => c0 = zeroCells τ) : Rep P τ 0 w F x c0 [] := by
 unfold evPart at hx
 cases hf : ps.find? fun q => Nat.beq q.1 i with
 | none =>
  rw [hf] at hx hseg
  simp only at hx hseg
  split at hx
  ·rename_i hd
   simp only [Option.some.injEq] at hx
   subst hx
   rw [hseg]
   exact Rep.zero hd
  ·simp at hx
 | some q =>
  rw [hf] at hx hseg
  simp only at hx hseg
  obtain ⟨v, hv, hcs⟩ := hseg
  split at hx
  ·rename_i t rr hq
   rw [hq] at hv
   obtain ⟨⟨Or, ⟨_, hrep⟩, _⟩, _⟩ := hv
   cases τ <;> simp only [reduceCtorEq, Option.some.injEq] at hx
   subst hx
   rw [← hcs, hrep]
   exact ⟨none, 0, [], [], rfl, Nat.le_refl _, rfl, rfl, fun i hi => absurd hi (by simp), .inl ⟨rfl, rfl, .inl rfl⟩⟩
  ·split at hx
   ·rename_i t hk
    have := cast?_eq hx
    subst this
    obtain ⟨c, g1, g2⟩ := rdk_sound h hv hk
    have hc : v.cells.toList = c := g1.cells g2
    rw [← hcs, hc]
    exact g2
   ·simp at hx
theorem buildSt_rep (h : Fr P N w0 F0 G e a.tmps w F O) {ps : List (Nat × RS)} {cs : List Value} : ∀ {b : Ty} {i off : Nat} {x : b.den}, evBuildSt b i ps = some x → off + b.sz ≤ cs.length →
  (∀ f b1, fldTy b f = some b1 → (match ps.find? fun q => Nat.beq q.1 (i + f) with
   | some q => ∃ v, RSOk P G w F e a O q.2 v ∧ v.cells.toList = (cs.drop (off + fldOff b f)).take b1.sz
   | none => (cs.drop (off + fldOff b f)).take b1.sz = zeroCells b1)) →
  Rep P b 0 w F x ((cs.drop off).take b.sz) [] := by
 intro b
 induction b with
 | prod a1 b1 iha ihb =>
  intro i off x hx hlen hseg
  simp only [evBuildSt] at hx
  split at hx
  ·rename_i x1 x2 e1 e2
   simp only [Option.some.injEq] at hx
   subst hx
   simp only [Ty.sz] at hlen
   have r1 : Rep P a1 0 w F x1 ((cs.drop off).take a1.sz) [] := evPart_rep h e1 (by
    have := hseg 0 a1 rfl
    simpa [fldOff] using this)
   have r2 : Rep P b1 0 w F x2 ((cs.drop (off + a1.sz)).take b1.sz) [] := ihb e2 (by omega) fun f c hf => by
    have := hseg (f + 1) c hf
    simp only [fldOff] at this
    rw [show i + 1 + f = i + (f + 1) from by omega, show off + a1.sz + fldOff b1 f = off + (a1.sz + fldOff b1 f) from by omega]
    exact this
   refine ⟨_, _, [], [], ?_, rfl, by simp; omega, by simp; omega, r1, r2⟩
   simp only [Ty.sz]
   rw [List.take_add, List.drop_drop]
  ·simp at hx
 | int k => intro i off x hx hlen hseg; exact evPart_rep h hx (by simpa [fldOff] using hseg 0 _ rfl)
 | bool => intro i off x hx hlen hseg; exact evPart_rep h hx (by simpa [fldOff] using hseg 0 _ rfl)
 | str => intro i off x hx hlen hseg; exact evPart_rep h hx (by simpa [fldOff] using hseg 0 _ rfl)
 | slice k _ => intro i off x hx hlen hseg; exact evPart_rep h hx (by simpa [fldOff] using hseg 0 _ rfl)
 | st k _ => intro i off x hx hlen hseg; exact evPart_rep h hx (by simpa [fldOff] using hseg 0 _ rfl)
 | cptr k _ => intro i off x hx hlen hseg; exact evPart_rep h hx (by simpa [fldOff] using hseg 0 _ rfl)
 | fn k r _ _ => intro i off x hx hlen hseg; exact evPart_rep h hx (by simpa [fldOff] using hseg 0 _ rfl)
theorem run_mapM {α β : Type} {g : α → Sem β} {r : α → β} : ∀ {l : List α}, (∀ x ∈ l, (g x).run P w = .ok (r x) w) → (l.mapM g).run P w = .ok (l.map r) w
 | [], _ => by simp
 | x :: l, h => by
  rw [List.mapM_cons]
  simp [h x (List.mem_cons_self ..), run_mapM fun y hy => h y (List.mem_cons_of_mem _ hy)]
theorem okB_all : ∀ {b : Ty} {fs : Array Field} {i off : Nat}, (okB P b).2 fs i off = true → ∀ j, i ≤ j → j < fs.size → ∃ b1, fldTy b (j - i) = some b1 := by
 intro b
 have leaf : ∀ {τ : Ty} {fs : Array Field} {i off : Nat}, leafB (okB P τ).1 fs i off = true → fs.size = i + 1 := by
  intro τ fs i off h
  unfold leafB at h
  cases hf : fs[i]? with
  | none => rw [hf] at h; simp at h
  | some d => rw [hf] at h; simp at h; exact h.2
 induction b with
 | prod a1 b1 iha ihb =>
  intro fs i off h j hij hj
  simp only [okB, Bool.and_eq_true] at h
  by_cases he : j = i
  ·subst he; exact ⟨a1, by simp [fldTy]⟩
  ·obtain ⟨b2, hb⟩ := ihb h.2 j (by omega) hj
   refine ⟨b2, ?_⟩
   rw [show j - i = (j - (i + 1)) + 1 from by omega]
   exact hb
 | _ =>
  intro fs i off h j hij hj
  rw [okB_leaf _ rfl] at h
  have := leaf h
  rw [show j - i = 0 from by omega]
  exact ⟨_, rfl⟩
theorem PartsOk.find {ps : List (Nat × RS)} {vs : List (Nat × Value)} (h : PartsOk P G w F e a O ps vs) (i : Nat) : (match ps.find? fun q => Nat.beq q.1 i with
  | some q => ∃ v, RSOk P G w F e a O q.2 v ∧ (vs.find? fun q => Nat.beq q.1 i) = some (q.1, v)
  | none => (vs.find? fun q => Nat.beq q.1 i) = none) := by
 induction ps generalizing vs with
 | nil => have hv : vs = [] := h; subst hv; rfl
 | cons q ps ih =>
  obtain ⟨v, vs', rfl, hv, h⟩ := h
  simp only [List.find?_cons]
  by_cases hi : Nat.beq q.1 i = true
  ·simp only [hi]
   exact ⟨v, hv, rfl⟩
  ·simp only [Bool.not_eq_true] at hi
   simp only [hi]
   exact ih h
theorem PartsOk.keys {ps : List (Nat × RS)} {vs : List (Nat × Value)} (h : PartsOk P G w F e a O ps vs) : vs.map (·.1) = ps.map (·.1) := by
 induction ps generalizing vs with
 | nil => have hv : vs = [] := h; subst hv; rfl
 | cons q ps ih =>
  obtain ⟨v, vs', rfl, hv, h⟩ := h
  simp [ih h]
theorem find_distinct {β : Type} : ∀ {vs : List (Nat × β)}, distinct (vs.map (·.1)) = true → ∀ q ∈ vs, (vs.find? fun p => Nat.beq p.1 q.1) = some q
 | [], _, q, hq => by cases hq
 | p :: vs, hd, q, hq => by
  simp only [List.map_cons, distinct, Bool.and_eq_true, Bool.not_eq_true'] at hd
  rw [List.find?_cons]
  rcases List.mem_cons.1 hq with rfl | hq
  ·simp [Nat.beq_refl]
  ·by_cases hb : Nat.beq p.1 q.1 = true
   ·have := Nat.eq_of_beq_eq_true hb
    have hm : p.1 ∈ vs.map (·.1) := by rw [this]; exact List.mem_map_of_mem hq
    rw [any_beq.2 hm] at hd
    simp at hd
   ·simp only [Bool.not_eq_true] at hb
    simp only [hb]
    exact find_distinct hd.2 q hq
theorem evBuildSt_part {ps : List (Nat × RS)} : ∀ {b : Ty} {i : Nat} {x : b.den} {f : Nat} {b1 : Ty}, evBuildSt b i ps = some x → fldTy b f = some b1 → ∃ y, evPart b1 (i + f) ps = some y := by
 intro b
 induction b with
 | prod a1 b1 iha ihb =>
  intro i x f c hx hf
  simp only [evBuildSt] at hx
  split at hx
  ·rename_i x1 x2 e1 e2
   cases f with
   | zero => simp only [fldTy, Option.some.injEq] at hf; subst hf; exact ⟨x1, e1⟩
   | succ f =>
    obtain ⟨y, hy⟩ := ihb e2 hf
    exact ⟨y, by rw [← hy]; congr 1; omega⟩
  ·simp at hx
 | _ =>
  intro i x f c hx hf
  cases f <;> simp only [fldTy, Option.some.injEq, reduceCtorEq] at hf
  subst hf
  exact ⟨x, hx⟩
theorem evPart_size (h : Fr P N w0 F0 G e a.tmps w F O) {ps : List (Nat × RS)} {τ : Ty} {i : Nat} {y : τ.den} (hy : evPart τ i ps = some y) {q : Nat × RS} (hq : (ps.find? fun p => Nat.beq p.1 i) = some q) {v : Value} (hv : RSOk P G w F e a O q.2 v) : v.cells.size = τ.sz := by
 have := evPart_rep h hy (c0 := v.cells.toList) (by rw [hq]; exact ⟨v, hv, rfl⟩)
 have := this.length
 simpa using this
theorem evBuild_sound (h : Fr P N w0 F0 G e a.tmps w F O) {tys : Tys} (ht : tys.ok P = true) {T : TypeId} {b : Ty} (hT : tyAt tys T = some (.st b)) (hd : b.data = true)
  {ps : List (Nat × RS)} {vs : List (Nat × Value)} (hp : PartsOk P G w F e a O ps vs) (hdis : distinct (ps.map (·.1)) = true) (hin : ∀ q ∈ ps, (fldTy b q.1).isSome = true) {x : b.den} (hb : evBuildSt b 0 ps = some x) :
  Yld P w F G e a (Instr.build T vs.toArray) (.v 0 (.st b) x) := by
 have hok := tyAt_ok ht hT
 obtain ⟨fs, hu, hfs, _⟩ := hok.st
 obtain ⟨z, hz1, hz2⟩ := hok.zeroV (w := w) (show (Ty.st b).data = true from hd)
 have hz2' : z = .agg (zeroCells b).toArray := hz2
 subst hz2'
 have hzrep : Rep P b 0 w F b.zero (zeroCells b) [] := Rep.zero hd
 have hkeys := hp.keys
 have hdv : distinct (vs.map (·.1)) = true := by rw [hkeys]; exact hdis
 have hpart : ∀ q ∈ vs, ∃ b1, fldTy b q.1 = some b1 ∧ q.2.cells.size = b1.sz := by
  intro q hq
  have hk : q.1 ∈ ps.map (·.1) := by rw [← hkeys]; exact List.mem_map_of_mem hq
  obtain ⟨r, hr, hrq⟩ := List.mem_map.1 hk
  obtain ⟨b1, hb1⟩ := Option.isSome_iff_exists.1 (hin r hr)
  rw [hrq] at hb1
  refine ⟨b1, hb1, ?_⟩
  have hf1 := find_distinct hdis r hr
  rw [hrq] at hf1
  have := hp.find q.1
  rw [hf1] at this
  simp only at this
  obtain ⟨v, hv, hfv⟩ := this
  rw [find_distinct hdv q hq] at hfv
  have hv2 : q.2 = v := by have := Option.some.inj hfv; rw [this]
  obtain ⟨y, hy⟩ := evBuildSt_part hb hb1
  rw [Nat.zero_add] at hy
  rw [hv2]
  exact evPart_size h hy hf1 hv
 let pl : Array (Nat × Nat) := fs.map fun d => (d.offset, P.cellsOf d.type)
 have hpl : ∀ i b1, fldTy b i = some b1 → pl[i]? = some (fldOff b i, b1.sz) := by
  intro i b1 hi
  obtain ⟨d, k1, k2, k3, _⟩ := okB_fld hfs hi
  rw [Nat.zero_add] at k1
  rw [Nat.zero_add] at k2
  obtain ⟨inf, g1, g2, _⟩ := k3.info
  simp [pl, k1, k2, Program.cellsOf, g1, g2]
 have hmap : (fs.mapM fun (f : Field) => (Prod.mk f.offset <$> sizeOf f.type : Sem (Nat × Nat))).run P w = .ok pl w := by
  rw [Array.mapM_eq_mapM_toList]
  rw [Sem.run_map, run_mapM (r := fun d => (d.offset, P.cellsOf d.type))]
  ·simp only [Result.andThen_ok, pl]
   congr 1
   apply Array.toList_inj.1
   simp
  ·intro d hd'
   obtain ⟨j, hj, rfl⟩ := List.getElem_of_mem hd'
   obtain ⟨b1, hb1⟩ := okB_all hfs j (Nat.zero_le _) (by simpa using hj)
   rw [Nat.sub_zero] at hb1
   obtain ⟨d', k1, k2, k3, _⟩ := okB_fld hfs hb1
   rw [Nat.zero_add] at k1
   have hd2 : fs.toList[j] = d' := by
    have : fs[j]? = some fs.toList[j] := by simp at hj ⊢
    rw [this] at k1
    exact Option.some.inj k1
   rw [hd2]
   obtain ⟨inf, g1, g2, _⟩ := k3.info
   simp [k3.size, Program.cellsOf, g1, g2]
 obtain ⟨c', q1, q2, q3⟩ := fill_struct (b := b) hpl (vs := vs) (cells := (zeroCells b).toArray) (by simp [hzrep.length]) hdv hpart
 have hrun : (Instr.build T vs.toArray).run P w = .ok (.agg c') w := by
  simp [Instr.build, hz1, run_underlying hu, hmap, Value.cells, q1]
 have hc' : c'.toList.length = b.sz := by simp [q2]
 refine Yld.same h hrun ⟨c'.toList, by simp [VS], ?_⟩
 have key := buildSt_rep h (cs := c'.toList) (off := 0) hb (by omega) (fun f b1 hf => by
  have hs := q3 f b1 hf
  have hfind := hp.find f
  rw [Nat.zero_add, Nat.zero_add]
  cases hps : ps.find? fun q => Nat.beq q.1 f with
  | none =>
   rw [hps] at hfind
   simp only at hfind ⊢
   rw [hfind] at hs
   simp only [seg] at hs
   rw [hs]
   exact zeroCells_seg hd hf
  | some q =>
   rw [hps] at hfind
   simp only at hfind ⊢
   obtain ⟨v, hv, hfv⟩ := hfind
   rw [hfv] at hs
   exact ⟨v, hv, by simpa [seg] using hs.symm⟩)
 rw [List.drop_zero, List.take_of_length_le (by omega)] at key
 exact key
end
end Go.Tom
set_option linter.unusedVariables false
set_option linter.unusedSimpArgs false
namespace Go.Tom
open Go
theorem Rep.full {P : Program} : ∀ {τ : Ty} {n : Lv} {w : World} {F F' : Nat → Prop} {x : τ.den} {cs : List Value} {O : List Nat}, fullLv τ n = true → Rep P τ n w F x cs O → Rep P τ n w F' x cs O := by
 intro τ
 induction τ with
 | prod a b iha ihb =>
  intro n w F F' x cs O hd h
  obtain ⟨cs1, cs2, O1, O2, rfl, rfl, h1, h2, r1, r2⟩ := h
  simp only [fullLv, Bool.and_eq_true] at hd
  exact ⟨cs1, cs2, O1, O2, rfl, rfl, h1, h2, iha hd.1 r1, ihb hd.2 r2⟩
 | st a ih => intro n w F F' x cs O hd h; exact ih hd h
 | int k => intro n w F F' x cs O _ h; exact h
 | bool => intro n w F F' x cs O _ h; exact h
 | str => intro n w F F' x cs O _ h; exact h
 | slice e ih =>
  intro n w F F' x cs O hd h
  simp only [fullLv, Bool.and_eq_true] at hd
  have hn : e.depth < n.k := Nat.le_of_ble_eq_true hd.2
  obtain ⟨a, cap, css, Os, rfl, hcap, hcl, hol, hr, hs⟩ := h
  refine ⟨a, cap, css, Os, rfl, hcap, hcl, hol, fun i h h1 h2 => ⟨ih (fullLv_n hd.1 (by omega)) (hr i h h1 h2).1, (hr i h h1 h2).2⟩, ?_⟩
  rcases hs with ⟨hn0, _⟩ | hs | hs
  ·omega
  ·exact .inr (.inl hs)
  ·exact .inr (.inr hs)
 | cptr a _ => intro n w F F' x cs O hd; simp [fullLv] at hd
 | fn a r _ _ => intro n w F F' x cs O hd; simp [fullLv] at hd
theorem Rep.lower {P : Program} {w : World} {F : Nat → Prop} : ∀ {τ : Ty} {n m : Lv} {x : τ.den} {cs : List Value} {O : List Nat}, Rep P τ n w F x cs O → Lv.le m n = true →
  ∃ O' R, O.Perm (O' ++ R) ∧ ∀ F', Ext w F w F' → (∀ b ∈ R, F' b) → Rep P τ m w F' x cs O' := by
 intro τ
 induction τ with
 | prod a b iha ihb =>
  intro n m x cs O h hm
  obtain ⟨cs1, cs2, O1, O2, rfl, rfl, h1, h2, r1, r2⟩ := h
  obtain ⟨O1', R1, p1, k1⟩ := iha r1 (Lv.le_fst hm).1
  obtain ⟨O2', R2, p2, k2⟩ := ihb r2 (Lv.le_fst hm).2
  refine ⟨O1' ++ O2', R1 ++ R2, ?_, fun F' he hR => ⟨cs1, cs2, O1', O2', rfl, rfl, h1, h2, k1 F' he fun b hb => hR b (List.mem_append_left _ hb), k2 F' he fun b hb => hR b (List.mem_append_right _ hb)⟩⟩
  refine (p1.append p2).trans ?_
  simp only [List.append_assoc]
  refine List.Perm.append_left O1' ?_
  rw [← List.append_assoc, ← List.append_assoc]
  exact List.perm_append_comm.append_right R2
 | st a ih => intro n m x cs O h hm; exact ih h hm
 | int k => intro n m x cs O h _; exact ⟨[], [], by rw [h.2]; simp, fun F' _ _ => ⟨h.1, rfl⟩⟩
 | bool => intro n m x cs O h _; exact ⟨[], [], by rw [h.2]; simp, fun F' _ _ => ⟨h.1, rfl⟩⟩
 | str => intro n m x cs O h _; exact ⟨[], [], by rw [h.2]; simp, fun F' _ _ => ⟨h.1, rfl⟩⟩
 | slice e ih =>
  intro n m x cs O h hm
  have hmk := Lv.le_k hm
  by_cases hm0 : m.k = 0
  ·refine ⟨[], O, by simp, fun F' he hR => ?_⟩
   obtain ⟨a, cap, css, Os, rfl, hcap, hcl, hol, hr, hs⟩ := h.freeze he hR
   refine ⟨a, cap, css, Os, rfl, hcap, hcl, hol, ?_, ?_⟩
   ·rw [hm0]; exact hr
   ·rw [hm0]; exact hs
  ·obtain ⟨a, cap, css, Os, rfl, hcap, hcl, hol, hr, hs⟩ := h
   rcases hs with ⟨hn0, _⟩ | ⟨hn0, hc, rfl⟩ | ⟨hn0, b, o, rfl, hat, hown, rfl⟩
   ·omega
   ·refine ⟨[], [], by simp, fun F' he _ => ⟨a, cap, css, Os, rfl, hcap, hcl, hol, fun i h h1 h2 => absurd h (by omega), .inr (.inl ⟨by omega, hc, rfl⟩)⟩⟩
   ·have key : ∀ (xs : List e.den) (css : List (List Value)) (Os : List (List Nat)), css.length = xs.length → Os.length = xs.length →
      (∀ i (h : i < xs.length) (h1 : i < css.length) (h2 : i < Os.length), Rep P e (.n (n.k - 1)) w F xs[i] css[i] Os[i]) →
      ∃ Os' Rs : List (List Nat), Os'.length = xs.length ∧ (Os.flatten).Perm (Os'.flatten ++ Rs.flatten) ∧ ∀ F', Ext w F w F' → (∀ b ∈ Rs.flatten, F' b) →
       ∀ i (h : i < xs.length) (h1 : i < css.length) (h2 : i < Os'.length), Rep P e (.n (m.k - 1)) w F' xs[i] css[i] Os'[i] := by
     intro xs
     induction xs with
     | nil =>
      intro css Os _ hO _
      have : Os = [] := List.eq_nil_of_length_eq_zero (by simpa using hO)
      subst this
      exact ⟨[], [], rfl, by simp, fun F' _ _ i h => absurd h (by simp)⟩
     | cons y xs ihx =>
      intro css Os hc hO hrep
      match css, Os, hc, hO with
      | c :: css, O1 :: Os, hc, hO =>
       obtain ⟨O1', R1, p1, k1⟩ := ih (hrep 0 (by simp) (by simp) (by simp)) (m := .n (m.k - 1)) (Nat.ble_eq_true_of_le (by omega))
       obtain ⟨Os', Rs, l1, p2, k2⟩ := ihx css Os (by simpa using hc) (by simpa using hO) (fun i h h1 h2 => hrep (i + 1) (by simpa using h) (by simpa using h1) (by simpa using h2))
       refine ⟨O1' :: Os', R1 :: Rs, by simp [l1], ?_, fun F' he hR i h h1 h2 => ?_⟩
       ·simp only [List.flatten_cons]
        simp only [List.getElem_cons_zero] at p1
        refine (p1.append p2).trans ?_
        simp only [List.append_assoc]
        refine List.Perm.append_left O1' ?_
        rw [← List.append_assoc, ← List.append_assoc]
        exact List.perm_append_comm.append_right _
       ·cases i with
        | zero => exact k1 F' he fun b hb => hR b (by simp [hb])
        | succ i => exact k2 F' he (fun b hb => hR b (by simp only [List.flatten_cons]; exact List.mem_append_right _ hb)) i (by simpa using h) (by simpa using h1) (by simpa using h2)
    obtain ⟨Os', Rs, l1, p1, k1⟩ := key x css Os hcl hol fun i h h1 h2 => (hr i h h1 h2).1
    refine ⟨b :: Os'.flatten, Rs.flatten, ?_, fun F' he hR => ⟨_, cap, css, Os', rfl, hcap, hcl, l1, fun i h h1 h2 => ⟨k1 F' he hR i h h1 h2, (hr i h h1 (by omega)).2⟩, .inr (.inr ⟨by omega, b, o, rfl, hat, hown, rfl⟩)⟩⟩
    exact List.Perm.cons b p1
 | cptr a _ =>
  intro n m x cs O h hm
  have hO : O = [] := by obtain ⟨b, o, cs', _, _, _, _, _, rfl⟩ := h; rfl
  subst hO
  refine ⟨[], [], by simp, fun F' he _ => ?_⟩
  exact Rep.mono (τ := .cptr a) (n := m) (show Rep P (.cptr a) m w F x cs [] from h) he (fun b hb => by cases hb)
 | fn a r _ _ =>
  intro n m x cs O h hm
  have hO : O = [] := h.1
  subst hO
  refine ⟨[], [], by simp, fun F' he _ => ?_⟩
  exact Rep.mono (τ := .fn a r) (n := m) (show Rep P (.fn a r) m w F x cs [] from h) he (fun b hb => by cases hb)
section
variable {P : Program} {N : Nat} {w0 : Start} {w : World} {F0 F : Nat → Prop} {G : Nat × Bool → Bool} {e : Nat → S} {a : Act} {O : Nat → List Nat}
theorem ArgsRep.append {ts ts' : List TV} {vs vs' : List Value} (h : ArgsRep P w F ts vs) (h' : ArgsRep P w F ts' vs') : ArgsRep P w F (ts ++ ts') (vs ++ vs') := by
 induction ts generalizing vs with
 | nil => have hv : vs = [] := h; subst hv; exact h'
 | cons t ts ih =>
  obtain ⟨v, vs1, cs, rfl, h1, h2, h3⟩ := h
  exact ⟨v, vs1 ++ vs', cs, rfl, h1, h2, ih h3⟩
theorem ArgsRep.mono {w' : World} {F' : Nat → Prop} {ts : List TV} {vs : List Value} (h : ArgsRep P w F ts vs) (he : Ext w F w' F') : ArgsRep P w' F' ts vs := by
 induction ts generalizing vs with
 | nil => exact h
 | cons t ts ih =>
  obtain ⟨v, vs1, cs, rfl, h1, h2, h3⟩ := h
  exact ⟨v, vs1, cs, rfl, h1, h2.mono he (fun b hb => by cases hb), ih h3⟩
theorem unprod_rep : ∀ {b : Ty} {x : b.den} {vs cs : List Value}, Rep P b 0 w F x cs [] → ArgS b vs cs → ArgsRep P w F (unprod b x) vs := by
 intro b
 induction b with
 | prod a1 b1 iha ihb =>
  intro x vs cs h hs
  obtain ⟨v, vs', c1, c2, rfl, rfl, hl, hv, hs⟩ := hs
  obtain ⟨d1, d2, O1, O2, hd, hO, l1, l2, r1, r2⟩ := h
  have hz1 := r1.zero_nil; have hz2 := r2.zero_nil
  subst hz1; subst hz2
  obtain ⟨rfl, rfl⟩ := List.append_inj hd (by omega)
  exact ⟨v, vs', c1, rfl, hv, r1, ihb r2 hs⟩
 | int k => intro x vs cs h hs; obtain ⟨v, rfl, hv⟩ := hs; exact ⟨v, [], cs, rfl, hv, h, rfl⟩
 | bool => intro x vs cs h hs; obtain ⟨v, rfl, hv⟩ := hs; exact ⟨v, [], cs, rfl, hv, h, rfl⟩
 | str => intro x vs cs h hs; obtain ⟨v, rfl, hv⟩ := hs; exact ⟨v, [], cs, rfl, hv, h, rfl⟩
 | slice k _ => intro x vs cs h hs; obtain ⟨v, rfl, hv⟩ := hs; exact ⟨v, [], cs, rfl, hv, h, rfl⟩
 | st k _ => intro x vs cs h hs; obtain ⟨v, rfl, hv⟩ := hs; exact ⟨v, [], cs, rfl, hv, h, rfl⟩
 | cptr k _ => intro x vs cs h hs; obtain ⟨v, rfl, hv⟩ := hs; exact ⟨v, [], cs, rfl, hv, h, rfl⟩
 | fn k r _ _ => intro x vs cs h hs; obtain ⟨v, rfl, hv⟩ := hs; exact ⟨v, [], cs, rfl, hv, h, rfl⟩
theorem caps_rep (h : Fr P N w0 F0 G e a.tmps w F O) : ∀ {caps : List Nat} {cl : List TV}, capsTV (caps.map e) = some cl → ArgsRep P w (FC F O) cl (caps.map fun t => a.tmps.getD t undef)
 | [], cl, hc => by simp only [List.map_nil, capsTV, Option.some.injEq] at hc; subst hc; rfl
 | t :: caps, cl, hc => by
  simp only [List.map_cons] at hc ⊢
  have hr := h.rep t
  cases ht : e t <;> rw [ht] at hc <;> try (simp [capsTV] at hc; done)
  ·rename_i n τ x
   cases τ <;> try (simp [capsTV] at hc; done)
   simp only [capsTV, Option.map_eq_some_iff] at hc
   obtain ⟨cl', hc, rfl⟩ := hc
   rw [ht] at hr
   obtain ⟨cs, h1, b, o, cs', rfl, hF, hat, hl, hrep, hO⟩ := hr
   exact ⟨_, _, [_], rfl, h1, ⟨b, o, cs', rfl, .inl hF, hat, hl, hrep.mono h.fc (fun b hb => by cases hb), rfl⟩, caps_rep h hc⟩
  ·rename_i n τ x
   simp only [capsTV, Option.map_eq_some_iff] at hc
   obtain ⟨cl', hc, rfl⟩ := hc
   rw [ht] at hr
   obtain ⟨b, cs, el, O', h1, h2, h3, h4⟩ := hr
   refine ⟨_, _, [_], rfl, rfl, ⟨b, 0, cs, ?_, .inr ⟨t, by rw [h4]; exact List.mem_cons_self ..⟩, at_heap h2, h3.length, h3.freeze h.fc fun b hb => .inr ⟨t, by rw [h4]; exact List.mem_cons_of_mem _ hb⟩, rfl⟩, caps_rep h hc⟩
   rw [h1]
theorem argTV_sound (h : Fr P N w0 F0 G e a.tmps w F O) {tys : Tys} {T : TypeId} {r : RS} {v : Value} (hr : RSOk P G w F e a O r v) {sup sup' : List Sup} {t : TV} {obs : List Prop}
  (hev : argTV P tys T r sup = some (t, obs, sup')) (hobs : ∀ p ∈ obs, p) : ∃ cs, VS t.1 v cs ∧ Rep P t.1 0 w (FC F O) t.2 cs [] := by
 unfold argTV at hev
 split at hev
 ·split at hev
  ·simp only [Option.some.injEq, Prod.mk.injEq] at hev
   obtain ⟨rfl, rfl, rfl⟩ := hev
   obtain ⟨⟨Or, ⟨_, hrep⟩, _⟩, _⟩ := hr
   exact ⟨[v], rfl, none, 0, [], [], by rw [hrep]; rfl, Nat.le_refl _, rfl, rfl, fun i hi => absurd hi (by simp), .inl ⟨rfl, rfl, .inl rfl⟩⟩
  ·simp at hev
 ·rename_i tt f caps rts
  obtain ⟨⟨Or, ⟨_, hrep⟩, _⟩, hrt, _⟩ := hr
  have hrt' : rts = caps.map e := hrt
  subst hrt'
  split at hev
  ·rename_i a1 b1 g sup1 cl hcl
   simp only [Option.some.injEq, Prod.mk.injEq] at hev
   obtain ⟨rfl, rfl, rfl⟩ := hev
   have hcall : ∀ x y, g x = some y → ACall P f (unprod a1 x ++ cl) [⟨9, b1, y⟩] := hobs _ (List.mem_singleton.2 rfl)
   have hcaps := caps_rep h hcl
   refine ⟨[v], rfl, rfl, f, #[], _, by rw [hrep], fun w' F' he x vs cs' y hg hx hs => ?_⟩
   obtain ⟨hf, hc⟩ := hcall x y hg
   refine ⟨hf, ?_⟩
   have hargs := ArgsRep.append (unprod_rep hx hs) (ArgsRep.mono hcaps he)
   have := hc w' F' _ he.lt ((h.lays.ext h.fc).ext he) hargs
   have hre : (#[] ++ vs.toArray ++ (caps.map fun t => a.tmps.getD t undef).toArray : Array Value) = (vs ++ caps.map fun t => a.tmps.getD t undef).toArray := by simp
   rw [hre]
   refine this.mono fun ed w'' ⟨vr, F'', O'', he', hres, hout⟩ => ?_
   obtain ⟨v1, vs1, c1, O1, O2, rfl, rfl, g1, g2, rfl, rfl⟩ := hres
   exact ⟨v1, c1, F'', _, he', g1, g2, by simpa using hout⟩
  ·simp at hev
 ·split at hev
  ·rename_i t' hv
   simp only [Option.some.injEq, Prod.mk.injEq] at hev
   obtain ⟨rfl, rfl, rfl⟩ := hev
   exact rdv_sound h hr hv
  ·simp at hev
theorem argsTV_sound (h : Fr P N w0 F0 G e a.tmps w F O) {tys : Tys} : ∀ {rs : List RS} {Ts : List TypeId} {vs : List Value} {sup sup' : List Sup} {ts : List TV} {obs : List Prop}, RSsOk P G w F e a O rs vs →
  argsTV P tys Ts rs sup = some (ts, obs, sup') → (∀ p ∈ obs, p) → ArgsRep P w (FC F O) ts vs
 | [], Ts, vs, sup, sup', ts, obs, hr, hev, hobs => by
  simp only [argsTV, Option.some.injEq, Prod.mk.injEq] at hev
  obtain ⟨rfl, rfl, rfl⟩ := hev
  exact hr
 | r :: rs, [], vs, sup, sup', ts, obs, hr, hev, hobs => by simp [argsTV] at hev
 | r :: rs, T :: Ts, vs, sup, sup', ts, obs, hr, hev, hobs => by
  obtain ⟨v, vs', rfl, hv, hr⟩ := hr
  simp only [argsTV] at hev
  split at hev
  ·rename_i t o1 sup1 h1
   split at hev
   ·rename_i ts' o2 sup2 h2
    simp only [Option.some.injEq, Prod.mk.injEq] at hev
    obtain ⟨rfl, rfl, rfl⟩ := hev
    obtain ⟨cs, k1, k2⟩ := argTV_sound h hv h1 fun p hp => hobs p (List.mem_append_left _ hp)
    exact ⟨v, vs', cs, rfl, k1, k2, argsTV_sound h hr h2 fun p hp => hobs p (List.mem_append_right _ hp)⟩
   ·simp at hev
  ·simp at hev
theorem argsTV_kept (h : Fr P N w0 F0 G e a.tmps w F O) {tys : Tys} : ∀ {rs : List RS} {Ts : List TypeId} {vs : List Value} {sup sup' : List Sup} {ts : List TV} {obs : List Prop}, RSsOk P G w F e a O rs vs →
  argsTV P tys Ts rs sup = some (ts, obs, sup') → (∀ p ∈ obs, p) → rs.all argKept = true → ArgsRep P w F ts vs
 | [], Ts, vs, sup, sup', ts, obs, hr, hev, hobs, hk => by
  simp only [argsTV, Option.some.injEq, Prod.mk.injEq] at hev
  obtain ⟨rfl, rfl, rfl⟩ := hev
  exact hr
 | r :: rs, [], vs, sup, sup', ts, obs, hr, hev, hobs, hk => by simp [argsTV] at hev
 | r :: rs, T :: Ts, vs, sup, sup', ts, obs, hr, hev, hobs, hk => by
  obtain ⟨v, vs', rfl, hv, hr⟩ := hr
  simp only [List.all_cons, Bool.and_eq_true] at hk
  simp only [argsTV] at hev
  split at hev
  ·rename_i t o1 sup1 h1
   split at hev
   ·rename_i ts' o2 sup2 h2
    simp only [Option.some.injEq, Prod.mk.injEq] at hev
    obtain ⟨rfl, rfl, rfl⟩ := hev
    have key : ∃ cs, VS t.1 v cs ∧ Rep P t.1 0 w F t.2 cs [] := by
     have hk1 := hk.1
     unfold argTV at h1
     split at h1
     ·split at h1
      ·simp only [Option.some.injEq, Prod.mk.injEq] at h1
       obtain ⟨rfl, rfl, rfl⟩ := h1
       obtain ⟨⟨Or, ⟨_, hrep⟩, _⟩, _⟩ := hv
       exact ⟨[v], rfl, none, 0, [], [], by rw [hrep]; rfl, Nat.le_refl _, rfl, rfl, fun i hi => absurd hi (by simp), .inl ⟨rfl, rfl, .inl rfl⟩⟩
      ·simp at h1
     ·rename_i tt f caps rts
      cases caps with
      | cons _ _ => simp [argKept] at hk1
      | nil =>
       obtain ⟨⟨Or, ⟨_, hrep⟩, _⟩, hrt, _⟩ := hv
       have hrt' : rts = [] := hrt
       subst hrt'
       split at h1
       ·rename_i a1 b1 g sup1 cl hcl
        simp only [Option.some.injEq, Prod.mk.injEq] at h1
        obtain ⟨rfl, rfl, rfl⟩ := h1
        simp only [capsTV, Option.some.injEq] at hcl
        subst hcl
        have hcall : ∀ x y, g x = some y → ACall P f (unprod a1 x ++ []) [⟨9, b1, y⟩] := hobs _ (List.mem_append_left _ (List.mem_singleton.2 rfl))
        refine ⟨[v], rfl, rfl, f, #[], _, by rw [hrep], fun w' F' he x vs cs' y hg hx hs => ?_⟩
        obtain ⟨hf, hc⟩ := hcall x y hg
        refine ⟨hf, ?_⟩
        have := hc w' F' vs he.lt (h.lays.ext he) (by rw [List.append_nil]; exact unprod_rep hx hs)
        have hre : (#[] ++ vs.toArray ++ (([] : List Nat).map fun t => a.tmps.getD t undef).toArray : Array Value) = vs.toArray := by simp
        rw [hre]
        refine this.mono fun ed w'' ⟨vr, F'', O'', he', hres, hout⟩ => ?_
        obtain ⟨v1, vs1, c1, O1, O2, rfl, rfl, g1, g2, rfl, rfl⟩ := hres
        exact ⟨v1, c1, F'', _, he', g1, g2, by simpa using hout⟩
       ·simp at h1
     ·split at h1
      ·rename_i t' hrd
       simp only [Option.some.injEq, Prod.mk.injEq] at h1
       obtain ⟨rfl, rfl, rfl⟩ := h1
       refine rdk_sound h hv ?_
       obtain ⟨rt, rs1, rr⟩ := r
       cases rs1 <;> simp only [argKept, Bool.false_eq_true] at hk1
       ·simp only [rdv, Option.some.injEq] at hrd
        simp [rdk, hk1, hrd]
       ·cases rr with
        | nil => simp [argKept] at hk1
        | cons s0 rr =>
         cases rr with
         | cons _ _ => simp [argKept] at hk1
         | nil =>
          cases s0 <;> try (simp [argKept] at hk1; done)
          rename_i i rs2
          simp only [argKept] at hk1
          simp only [rdv] at hrd
          simp only [rdk]
          split at hrd
          ·rename_i r2 hri
           simp only [hri] at hk1 ⊢
           rw [if_pos hk1]
           exact hrd
          ·simp at hrd
       ·simp [rdv] at hrd
       ·simp [rdv] at hrd
      ·simp at h1
    obtain ⟨cs, k1, k2⟩ := key
    exact ⟨v, vs', cs, rfl, k1, k2, argsTV_kept h hr h2 (fun p hp => hobs p (List.mem_append_right _ hp)) hk.2⟩
   ·simp at hev
  ·simp at hev
def lowR (q : Lv × Res) : Res := ⟨q.1, q.2.τ, q.2.x⟩
theorem res_low {w' : World} {F1 : Nat → Prop} : ∀ {rs : List (Lv × Res)} {vr : List Value} {O1 : List Nat}, ResRep P w' F1 (rs.map (·.2)) vr O1 → lowered rs = true →
  ∃ O' R, O1.Perm (O' ++ R) ∧ ∀ F'', Ext w' F1 w' F'' → (∀ b ∈ R, F'' b) → ResRep P w' F'' (rs.map lowR) vr O'
 | [], vr, O1, h, _ => by
  obtain ⟨rfl, rfl⟩ := h
  exact ⟨[], [], by simp, fun _ _ _ => ⟨rfl, rfl⟩⟩
 |(m, r) :: rs, vr, O1, h, hl => by
  simp only [List.map_cons] at h
  obtain ⟨v, vs', cs, Oa, Ob, rfl, rfl, h1, h2, h3⟩ := h
  simp only [lowered, Bool.and_eq_true] at hl
  obtain ⟨O1', R1, p1, k1⟩ := h2.lower hl.1
  obtain ⟨O2', R2, p2, k2⟩ := res_low h3 hl.2
  refine ⟨O1' ++ O2', R1 ++ R2, ?_, fun F'' he hR => ⟨v, vs', cs, O1', O2', rfl, rfl, h1, k1 F'' he fun b hb => hR b (List.mem_append_left _ hb), k2 F'' he fun b hb => hR b (List.mem_append_right _ hb)⟩⟩
  refine (p1.append p2).trans ?_
  simp only [List.append_assoc]
  refine List.Perm.append_left O1' ?_
  rw [← List.append_assoc, ← List.append_assoc]
  exact List.perm_append_comm.append_right R2
theorem res_fresh {w' : World} {F1 : Nat → Prop} : ∀ {rs : List (Lv × Res)} {vr : List Value} {O1 : List Nat}, ResRep P w' F1 (rs.map (·.2)) vr O1 → allFresh rs = true →
  ∃ O' R, O1.Perm (O' ++ R) ∧ ∀ F'' : Nat → Prop, (∀ b, F'' b → b < w'.heap.size) → (∀ b ∈ R, F'' b) → ResRep P w' F'' (rs.map lowR) vr O'
 | [], vr, O1, h, _ => by
  obtain ⟨rfl, rfl⟩ := h
  exact ⟨[], [], by simp, fun _ _ _ => ⟨rfl, rfl⟩⟩
 |(m, r) :: rs, vr, O1, h, hl => by
  simp only [List.map_cons] at h
  obtain ⟨v, vs', cs, Oa, Ob, rfl, rfl, h1, h2, h3⟩ := h
  simp only [allFresh, Bool.and_eq_true] at hl
  have h2' : Rep P r.τ r.n w' (fun _ => False) r.x cs Oa := h2.full hl.1.1
  obtain ⟨O1', R1, p1, k1⟩ := h2'.lower hl.1.2
  obtain ⟨O2', R2, p2, k2⟩ := res_fresh h3 hl.2
  refine ⟨O1' ++ O2', R1 ++ R2, ?_, fun F'' hlt hR => ⟨v, vs', cs, O1', O2', rfl, rfl, h1, k1 F'' ⟨fun _ hb => hb.elim, fun _ _ => rfl, hlt⟩ fun b hb => hR b (List.mem_append_left _ hb), k2 F'' hlt fun b hb => hR b (List.mem_append_right _ hb)⟩⟩
  refine (p1.append p2).trans ?_
  simp only [List.append_assoc]
  refine List.Perm.append_left O1' ?_
  rw [← List.append_assoc, ← List.append_assoc]
  exact List.perm_append_comm.append_right R2
theorem tup_of_res {w' : World} {F1 : Nat → Prop} : ∀ {rs : List Res} {vr : List Value} {O1 : List Nat}, ResRep P w' F1 rs vr O1 → TupRep P w' F1 (rs.map some) vr O1
 | [], vr, O1, h => h
 | r :: rs, vr, O1, h => by
  obtain ⟨v, vs', cs, Oa, Ob, rfl, rfl, h1, h2, h3⟩ := h
  exact ⟨v, vs', cs, Oa, Ob, rfl, rfl, h1, h2, tup_of_res h3⟩
theorem resS_rep {w' : World} {F1 : Nat → Prop} {T : Array Value} {rs : List (Lv × Res)} {vr : List Value} {O1 : List Nat} (h : ResRep P w' F1 (rs.map lowR) vr O1) : SRep P G w' F1 T e (tupled vr) (resS rs) O1 := by
 have gen : (∀ q, rs ≠ [q]) → resS rs = .tup (rs.map fun q => some (lowR q)) ∧ tupled vr = .tuple vr.toArray := by
  intro hne
  match rs, h with
  | [], h => obtain ⟨rfl, _⟩ := h; exact ⟨rfl, rfl⟩
  | [q], _ => exact absurd rfl (hne q)
  | q :: q' :: rs, h =>
   obtain ⟨v, vs', cs, Oa, Ob, rfl, rfl, h1, h2, v', vs'', cs', Oa', Ob', rfl, _⟩ := h
   exact ⟨rfl, rfl⟩
 by_cases hs : ∃ q, rs = [q]
 ·obtain ⟨⟨m, r⟩, rfl⟩ := hs
  obtain ⟨v, vs', cs, Oa, Ob, rfl, rfl, h1, h2, rfl, rfl⟩ := h
  rw [List.append_nil]
  exact ⟨cs, h1, h2⟩
 ·obtain ⟨h1, h2⟩ := gen fun q hq => hs ⟨q, hq⟩
  rw [h1, h2]
  have := tup_of_res h
  rw [List.map_map] at this
  exact ⟨vr, rfl, this⟩
def QOk (P : Program) (G : Nat × Bool → Bool) (w : World) (F : Nat → Prop) (e : Nat → S) (a : Act) (o : Oper) (s : S) : Prop :=
 ∀ (next : Act → World → Prop) (Q : Exit → Act → World → Prop), (∀ v w' F' On, Out w F w' F' On → SRep P G w' F' a.tmps e v s On → next (a.put o.dst v) w') → o.wp P a w next Q
theorem QOk.yld {o : Oper} {s : S} {m : Sem Value} (ho : execOp a.eval o = (do pure (.value (← m)))) (hy : Yld P w F G e a m s) : QOk P G w F e a o s := by
 obtain ⟨v, w', F', On, hm, hout, hrep⟩ := hy
 intro next Q hn
 unfold Oper.wp
 rw [ho]
 simp only [Sem.run_bind, hm, Result.andThen_ok, Sem.run_pure, Oper.upon]
 exact hn v w' F' On hout hrep
theorem QOk.val {o : Oper} {s : S} {v : Value} (h : Fr P N w0 F0 G e a.tmps w F O) (ho : execOp a.eval o = pure (.value v)) (hrep : SRep P G w F a.tmps e v s []) : QOk P G w F e a o s := by
 intro next Q hn
 unfold Oper.wp
 rw [ho]
 simp only [Sem.run_pure, Oper.upon]
 exact hn v w F [] (Out.refl h.lt) hrep
theorem Yld.freeze {m : Sem Value} {n : Lv} {τ : Ty} {x : τ.den} (hy : Yld P w F G e a m (.v n τ x)) : Yld P w F G e a m (.v 0 τ x) := by
 obtain ⟨v, w', F', On, hm, ho, cs, h1, h2⟩ := hy
 have hext : Ext w' F' w' (fun b => F' b ∨ b ∈ On) := ⟨fun _ hb => .inl hb, fun _ _ => rfl, fun b hb => hb.elim (ho.lt b) fun hb => (ho.new b hb).2.1⟩
 refine ⟨v, w', fun b => F' b ∨ b ∈ On, [], hm, ⟨ho.below, fun b hb => .inl (ho.sub b hb), hext.lt, fun b hb hlt => ?_, List.nodup_nil, fun b hb => by cases hb⟩, cs, h1, h2.freeze hext fun b hb => .inr hb⟩
 rcases hb with hb | hb
 ·exact ho.old b hb hlt
 ·have := (ho.new b hb).1; omega
theorem run_callFunc {f : FuncId} (hf : Fun P f) (vs : Array Value) : (callFunc f vs).run P w = .ok (.enter f vs) w := by
 obtain ⟨fn, h1, h2, h3⟩ := hf
 unfold callFunc
 simp only [Sem.run_bind, run_program, Result.andThen_ok, h1, h2, h3, Bool.false_eq_true, if_false]
 rfl
theorem call_out {Fc : Nat → Prop} (hlt : ∀ b, F b → b < w.heap.size) {w' : World} {F1 : Nat → Prop} {O1 O' R : List Nat} (ho : Out w Fc w' F1 O1) (hp : O1.Perm (O' ++ R)) :
  Out w F w' (fun b => F b ∨ (F1 b ∧ w.heap.size ≤ b) ∨ b ∈ R) O' := by
 have hsz := ho.below.size
 have hnd := hp.nodup_iff.1 ho.nodup
 have hO' : ∀ b ∈ O', b ∈ O1 := fun b hb => hp.mem_iff.2 (List.mem_append_left _ hb)
 have hR : ∀ b ∈ R, b ∈ O1 := fun b hb => hp.mem_iff.2 (List.mem_append_right _ hb)
 refine ⟨ho.below, fun b hb => .inl hb, fun b hb => ?_, fun b hb hlt' => ?_, (List.nodup_append.1 hnd).1, fun b hb => ?_⟩
 ·rcases hb with hb | ⟨hb, _⟩ | hb
  ·have := hlt b hb; omega
  ·exact ho.lt b hb
  ·exact (ho.new b (hR b hb)).2.1
 ·rcases hb with hb | ⟨_, hb⟩ | hb
  ·exact hb
  ·omega
  ·have := (ho.new b (hR b hb)).1; omega
 ·obtain ⟨n1, n2, n3⟩ := ho.new b (hO' b hb)
  refine ⟨n1, n2, fun hc => ?_⟩
  rcases hc with hc | ⟨hc, _⟩ | hc
  ·have := hlt b hc; omega
  ·exact n3 hc
  ·exact (List.nodup_append.1 hnd).2.2 b hb b hc rfl
theorem evCall_sound (h : Fr P N w0 F0 G e a.tmps w F O) {tys : Tys} {f : FuncId} {Ts : List TypeId} {args : List RS} {vs : List Value} (hargs : RSsOk P G w F e a O args vs) {sup sup' : List Sup} {s : S} {obs : List Prop}
  (hev : evCall P tys f Ts args [] sup = some (s, obs, sup')) (hobs : ∀ p ∈ obs, p) {o : Oper} (ho : (execOp a.eval o).run P w = (callFunc f vs.toArray).run P w) : QOk P G w F e a o s := by
 unfold evCall at hev
 split at hev
 ·rename_i ts o1 rs sup1 h1
  split at hev
  ·rename_i hc
   simp only [Option.some.injEq, Prod.mk.injEq] at hev
   obtain ⟨rfl, rfl, rfl⟩ := hev
   have hcall : ACall P f ts (rs.map (·.2)) := by
    have := hobs (ACall P f (ts ++ []) (rs.map (·.2))) (List.mem_append_right _ (List.mem_singleton.2 rfl))
    simpa using this
   obtain ⟨hf, hcall⟩ := hcall
   intro next Q hn
   unfold Oper.wp
   rw [ho, run_callFunc hf, Oper.upon_enter]
   simp only [Bool.or_eq_true, Bool.and_eq_true] at hc
   rcases hc with hc | ⟨hc1, hc2⟩
   ·have hA := argsTV_sound h hargs h1 fun p hp => hobs p (List.mem_append_left _ hp)
    refine (hcall w (FC F O) vs h.fc.lt (h.lays.ext h.fc) hA).mono fun ed w' ⟨vr, F1, O1, he, hres, hout⟩ => ?_
    subst he
    obtain ⟨O', R, hp, hk⟩ := res_fresh hres hc
    have hout' := call_out (F := F) h.lt hout hp
    exact hn _ w' _ O' hout' (resS_rep (hk _ hout'.lt fun b hb => .inr (.inr hb)))
   ·have hA := argsTV_kept h hargs h1 (fun p hp => hobs p (List.mem_append_left _ hp)) hc1
    refine (hcall w F vs h.lt h.lays hA).mono fun ed w' ⟨vr, F1, O1, he, hres, hout⟩ => ?_
    subst he
    obtain ⟨O', R, hp, hk⟩ := res_low hres hc2
    have hout' := call_out (F := F) h.lt hout hp
    refine hn _ w' _ O' hout' (resS_rep (hk _ ⟨fun b hb => ?_, fun _ _ => rfl, hout'.lt⟩ fun b hb => .inr (.inr hb)))
    by_cases hlt : b < w.heap.size
    ·exact .inl (hout.old b hb hlt)
    ·exact .inr (.inl ⟨hb, by omega⟩)
  ·simp at hev
 ·simp at hev
theorem prodOf_leaf {τ : Ty} (h : τ.isProd = false) (ts : List TV) : prodOf τ ts = (match ts with | [t] => cast? τ t | _ => none) := by
 cases τ <;> first
  |(simp [Ty.isProd] at h; done)
  |(cases ts with
    | nil => rfl
    | cons t ts => cases ts <;> rfl)
theorem prodOf_rep : ∀ {b : Ty} {x : b.den} {ts : List TV} {vs : List Value} {Fx : Nat → Prop}, prodOf b ts = some x → ArgsRep P w Fx ts vs → ∃ cs, Rep P b 0 w Fx x cs [] ∧ ArgS b vs cs := by
 intro b
 have leaf : ∀ {τ : Ty} {x : τ.den} {ts : List TV} {vs : List Value} {Fx : Nat → Prop}, (match ts with | [t] => cast? τ t | _ => none : Option τ.den) = some x → ArgsRep P w Fx ts vs → ∃ v cs, vs = [v] ∧ VS τ v cs ∧ Rep P τ 0 w Fx x cs [] := by
  intro τ x ts vs Fx hp h
  match ts, hp, h with
  | [t], hp, h =>
   have := cast?_eq hp
   subst this
   obtain ⟨v, vs', cs, rfl, h1, h2, rfl⟩ := h
   exact ⟨v, cs, rfl, h1, h2⟩
  | [], hp, _ => simp at hp
  | _ :: _ :: _, hp, _ => simp at hp
 induction b with
 | prod a1 b1 iha ihb =>
  intro x ts vs Fx hp h
  cases ts with
  | nil => simp [prodOf] at hp
  | cons t ts =>
   simp only [prodOf] at hp
   split at hp
   ·rename_i x1 x2 e1 e2
    simp only [Option.some.injEq] at hp
    subst hp
    have := cast?_eq e1
    subst this
    obtain ⟨v, vs', c1, rfl, k1, k2, k3⟩ := h
    obtain ⟨c2, r2, s2⟩ := ihb e2 k3
    exact ⟨c1 ++ c2, ⟨c1, c2, [], [], rfl, rfl, k2.length, r2.length, k2, r2⟩, v, vs', c1, c2, rfl, rfl, k2.length, k1, s2⟩
   ·simp at hp
 | int k => intro x ts vs Fx hp h; obtain ⟨v, cs, rfl, k1, k2⟩ := leaf (τ := .int k) (by rw [← prodOf_leaf rfl]; exact hp) h; exact ⟨cs, k2, v, rfl, k1⟩
 | bool => intro x ts vs Fx hp h; obtain ⟨v, cs, rfl, k1, k2⟩ := leaf (τ := .bool) (by rw [← prodOf_leaf rfl]; exact hp) h; exact ⟨cs, k2, v, rfl, k1⟩
 | str => intro x ts vs Fx hp h; obtain ⟨v, cs, rfl, k1, k2⟩ := leaf (τ := .str) (by rw [← prodOf_leaf rfl]; exact hp) h; exact ⟨cs, k2, v, rfl, k1⟩
 | slice k _ => intro x ts vs Fx hp h; obtain ⟨v, cs, rfl, k1, k2⟩ := leaf (τ := .slice k) (by rw [← prodOf_leaf rfl]; exact hp) h; exact ⟨cs, k2, v, rfl, k1⟩
 | st k _ => intro x ts vs Fx hp h; obtain ⟨v, cs, rfl, k1, k2⟩ := leaf (τ := .st k) (by rw [← prodOf_leaf rfl]; exact hp) h; exact ⟨cs, k2, v, rfl, k1⟩
 | cptr k _ => intro x ts vs Fx hp h; obtain ⟨v, cs, rfl, k1, k2⟩ := leaf (τ := .cptr k) (by rw [← prodOf_leaf rfl]; exact hp) h; exact ⟨cs, k2, v, rfl, k1⟩
 | fn k r _ _ => intro x ts vs Fx hp h; obtain ⟨v, cs, rfl, k1, k2⟩ := leaf (τ := .fn k r) (by rw [← prodOf_leaf rfl]; exact hp) h; exact ⟨cs, k2, v, rfl, k1⟩
theorem evCallFn_sound (h : Fr P N w0 F0 G e a.tmps w F O) {tys : Tys} {b r : Ty} {g : b.den → Option r.den} {n : Lv} {vf : Value} {Of : List Nat} {csf : List Value} (hvf : VS (.fn b r) vf csf) (hg : Rep P (.fn b r) n w F g csf Of)
  {Ts : List TypeId} {args : List RS} {vs : List Value} (hargs : RSsOk P G w F e a O args vs) {sup sup' : List Sup} {s : S} {obs : List Prop}
  (hev : evCallFn P tys b r g Ts args sup = some (s, obs, sup')) (hobs : ∀ p ∈ obs, p) {o : Oper} (ho : (execOp a.eval o).run P w = (do let d ← Deferred.ofValue vf vs.toArray; invoke d.target d.args).run P w) : QOk P G w F e a o s := by
 unfold evCallFn at hev
 split at hev
 ·rename_i ts o1 m r' y sup1 h1
  split at hev
  ·rename_i x hx
   split at hev
   ·rename_i y' hy
    have := cast?_eq hy
    simp only [Sigma.mk.injEq] at this
    obtain ⟨rfl, hyy⟩ := this
    have hyy := eq_of_heq hyy
    subst hyy
    split at hev
    ·rename_i hc
     simp only [Option.some.injEq, Prod.mk.injEq] at hev
     obtain ⟨rfl, rfl, rfl⟩ := hev
     simp only [Bool.and_eq_true] at hc
     obtain ⟨hc1, hc3⟩ := hc
     have hgx : g x = some y := hobs _ (List.mem_append_right _ (List.mem_singleton.2 rfl))
     have hA := argsTV_sound h hargs h1 fun p hp => hobs p (List.mem_append_left _ hp)
     obtain ⟨cs, hrx, hsx⟩ := prodOf_rep hx hA
     obtain ⟨rfl, f, first, cap, rfl, hk⟩ := hg
     have hvf' : [Value.func (.func f) first cap] = [vf] := hvf
     simp only [List.cons.injEq, and_true] at hvf'
     subst hvf'
     obtain ⟨hf, hcall⟩ := hk w (FC F O) h.fc x vs cs y hgx hrx hsx
     intro next Q hn
     unfold Oper.wp
     rw [ho]
     have hrun : (do let d ← Deferred.ofValue (.func (.func f) first cap) vs.toArray; invoke d.target d.args : Sem Next).run P w = .ok (.enter f (first ++ vs.toArray ++ cap)) w := by
      simp only [Deferred.ofValue, Sem.run_bind, Sem.run_pure, Result.andThen_ok, invoke]
      exact run_callFunc hf _
     rw [hrun, Oper.upon_enter]
     refine hcall.mono fun ed w' ⟨v, cs'', F1, O1, he, hv, hrep, hout⟩ => ?_
     subst he
     have hfull : Rep P r' 9 w' (fun _ => False) y cs'' O1 := hrep.full hc1
     obtain ⟨O', R, hp, hk⟩ := hfull.lower hc3
     have hout' := call_out (F := F) h.lt hout hp
     exact hn v w' _ O' hout' ⟨cs'', hv, hk _ ⟨fun _ hb => hb.elim, fun _ _ => rfl, hout'.lt⟩ fun b hb => .inr (.inr hb)⟩
    ·simp at hev
   ·simp at hev
  ·simp at hev
 ·simp at hev
theorem evalQ_sound (h : Fr P N w0 F0 G e a.tmps w F O) {tys : Tys} (ht : tys.ok P = true) {ok oka okb : List (Nat × Bool)} (hok : ∀ g ∈ ok, G g = true) {o : Oper}
  (hpk : ∀ c x y, o.op = .pick c x y → ∀ β, rdBool (opd ok e c) = some β → (β = true → ∀ g ∈ oka, G g = true) ∧ (β = false → ∀ g ∈ okb, G g = true))
  {sup sup' : List Sup} {s : S} {obs : List Prop} (hev : evalQ P tys ok oka okb e o sup = some (s, obs, sup')) (hobs : ∀ p ∈ obs, p) : QOk P G w F e a o s := by
 have op1 := fun x => opd_ok h hok x
 unfold evalQ at hev
 split at hev
 ·rename_i x hop
  exact QOk.val h (by simp only [execOp, hop]) (evMove_sound h ht (op1 x) hev)
 ·rename_i c x y hop
  cases hc : rdBool (opd ok e c) with
  | none => rw [hc] at hev; simp [evPick] at hev
  | some β =>
   rw [hc] at hev
   obtain ⟨k1, k2⟩ := hpk c x y hop β hc
   have hcv := rdBool_ok h (op1 c) hc
   refine QOk.val (v := if β then a.eval x else a.eval y) h ?_ (evPick_sound h hev (fun hb => opd_ok h (k1 hb) x) (fun hb => opd_ok h (k2 hb) y) (fun b hb => by rw [hb]; rfl) (fun b hb => by rw [hb]; rfl))
   simp only [execOp, hop, hcv, asBool]
   cases β <;> rfl
 ·rename_i T hop
  split at hev
  ·rename_i τ hT
   split at hev
   ·rename_i hd
    simp only [Option.some.injEq, Prod.mk.injEq] at hev
    obtain ⟨rfl, rfl, rfl⟩ := hev
    exact QOk.yld (by simp only [execOp, hop]) (evAlloc_sound h ht hT hd)
   ·simp at hev
  ·simp at hev
 ·rename_i T x hop
  exact QOk.yld (by simp only [execOp, hop]) (evLoad_sound h ht (op1 x) hev)
 ·rename_i T x f hop
  exact QOk.yld (by simp only [execOp, hop]) (evFieldAddr_sound h ht (op1 x) hev)
 ·rename_i T x f hop
  exact QOk.yld (by simp only [execOp, hop]) (evField_sound h ht (op1 x) hev)
 ·rename_i T x i hop
  exact QOk.yld (by simp only [execOp, hop]) (evIndexAddr_sound h ht (op1 x) (op1 i) hev hobs)
 ·rename_i T x i hop
  exact QOk.yld (by simp only [execOp, hop]) (evIndex_sound h ht (op1 x) (op1 i) hev hobs)
 ·rename_i op T x y yT hop
  exact QOk.yld (by simp only [execOp, hop]) (evBin_sound h ht (op1 x) (op1 y) (xo := x) (yo := y) hev hobs)
 ·rename_i op T x hop
  exact QOk.yld (by simp only [execOp, hop]) (evUn_sound h (op1 x) hev)
 ·rename_i src dst x hop
  exact QOk.yld (by simp only [execOp, hop]) (evConvert_sound h ht (op1 x) hev)
 ·rename_i T l c hop
  exact QOk.yld (by simp only [execOp, hop]) (evMakeSlice_sound h ht (op1 l) (op1 c) hev hobs)
 ·rename_i T x lo hi mx hop
  have oo : ∀ z : Option Operand, OptOk P G w F e a O (z.map (opd ok e)) (z.map a.eval) := fun z => by
   cases z with
   | none => rfl
   | some z => exact ⟨_, rfl, op1 z⟩
  exact QOk.yld (by simp only [execOp, hop]) (evSlice_sound h ht (op1 x) (oo lo) (oo hi) (oo mx) hev hobs)
 ·rename_i T n parts hop
  split at hev
  ·rename_i E hT
   split at hev
   ·rename_i hc
    simp only [Bool.and_eq_true] at hc
    obtain ⟨⟨hc1, hc2⟩, hc3⟩ := hc
    split at hev
    ·rename_i xs hb
     have := evBuildSlice_sound h ht hT hc2 (Nat.le_of_ble_eq_true hc3) (parts_ok h hok parts.toList) (by simpa using Nat.eq_of_beq_eq_true hc1) hb
     split at hev
     ·simp only [Option.some.injEq, Prod.mk.injEq] at hev
      obtain ⟨rfl, rfl, rfl⟩ := hev
      refine QOk.yld ?_ this.freeze
      simp only [execOp, hop]
      congr 2
      apply Array.toList_inj.1
      simp
     ·simp only [Option.some.injEq, Prod.mk.injEq] at hev
      obtain ⟨rfl, rfl, rfl⟩ := hev
      refine QOk.yld ?_ this
      simp only [execOp, hop]
      congr 2
      apply Array.toList_inj.1
      simp
    ·simp at hev
   ·simp at hev
  ·simp at hev
 ·rename_i T parts hop
  split at hev
  ·rename_i b hT
   split at hev
   ·rename_i hc
    simp only [Bool.and_eq_true] at hc
    obtain ⟨⟨hc1, hc2⟩, hc3⟩ := hc
    split at hev
    ·rename_i x hb
     simp only [Option.some.injEq, Prod.mk.injEq] at hev
     obtain ⟨rfl, rfl, rfl⟩ := hev
     have := evBuild_sound h ht hT hc1 (parts_ok h hok parts.toList) (by simpa [List.map_map, Function.comp_def] using hc2) (fun q hq => by
      obtain ⟨q', hq', rfl⟩ := List.mem_map.1 hq
      exact List.all_eq_true.1 hc3 q' hq') hb
     refine QOk.yld ?_ this
     simp only [execOp, hop]
     congr 2
     apply Array.toList_inj.1
     simp
    ·simp at hev
   ·simp at hev
  ·simp at hev
 ·rename_i f first captured hop
  split at hev
  ·rename_i cs hf hcs
   simp only [Option.some.injEq, Prod.mk.injEq] at hev
   obtain ⟨rfl, rfl, rfl⟩ := hev
   have hf' : first = #[] := by
    apply Array.toList_inj.1; simpa using hf
   subst hf'
   have := capSlots_map (a := a) hcs
   refine QOk.val h (v := .func (.func f) #[] (captured.map a.eval)) (by simp [execOp, hop, Instr.makeFunc]) ⟨rfl, ?_⟩
   congr 1
   apply Array.toList_inj.1
   simpa using this
  ·simp at hev
 ·rename_i t i hop
  exact QOk.yld (by simp only [execOp, hop]) (evExtract_sound h (op1 t) hev)
 ·rename_i f args Ts hop
  refine evCall_sound h (opds_ok h hok args.toList) hev hobs ?_
  simp only [execOp, hop, resolve, Act.eval, Deferred.ofValue, Sem.run_bind, Sem.run_pure, Result.andThen_ok, invoke]
  congr 2
  apply Array.toList_inj.1
  simp
 ·rename_i t args Ts hop
  split at hev
  ·rename_i to n b r g rr hg
   have hr := op1 (.tmp t)
   rw [hg] at hr
   obtain ⟨⟨Or, ⟨csf, hvf, hrep⟩, _⟩, _⟩ := hr
   refine evCallFn_sound h hvf hrep (opds_ok h hok args.toList) hev hobs ?_
   simp only [execOp, hop, resolve]
   congr 3
   apply Array.toList_inj.1
   simp
  ·simp at hev
 ·rename_i args Ts hop
  split at hev
  ·rename_i x T hargs hTs
   have ha : args = #[x] := by apply Array.toList_inj.1; simpa using hargs
   have hT : Ts = #[T] := by apply Array.toList_inj.1; simpa using hTs
   subst ha; subst hT
   have := evLen_sound h ht (op1 x) (ty := o.type) hev
   refine QOk.yld ?_ this
   simp only [execOp, hop, resolve, pure_bind, invoke, builtin]
   simp
  ·simp at hev
 ·rename_i args Ts hop
  have := evMM_sound h (opds_ok h hok args.toList) (Ts := Ts) (ty := o.type) hev
  refine QOk.yld ?_ this
  simp only [execOp, hop, resolve, if_true, pure_bind, invoke]
  have : (args.toList.map a.eval).toArray = args.map a.eval := by apply Array.toList_inj.1; simp
  rw [this]
  rfl
 ·rename_i args Ts hop
  have := evMM_sound h (opds_ok h hok args.toList) (Ts := Ts) (ty := o.type) hev
  refine QOk.yld ?_ this
  simp only [execOp, hop, resolve, Bool.false_eq_true, if_false, pure_bind, invoke]
  have : (args.toList.map a.eval).toArray = args.map a.eval := by apply Array.toList_inj.1; simp
  rw [this]
  rfl
 ·simp at hev
end
end Go.Tom
set_option linter.unusedVariables false
set_option linter.unusedSimpArgs false
namespace Go.Tom
open Go
theorem rooted_iff {V : Nat} {s : S} : rooted V s = true ↔ V ∈ roots s := any_beq
theorem Env.at_kill (E : Env) (V t : Nat) : (E.kill V).at t = if rooted V (E.at t) then .dead else E.at t := by
 induction E with
 | nil => simp [Env.kill, Env.at, rooted, roots]
 | cons q E ih =>
  obtain ⟨k, s⟩ := q
  simp only [Env.kill, List.map_cons, Env.at]
  by_cases h : Nat.beq t k = true
  ·simp only [h, if_true]
  ·simp only [h, Bool.false_eq_true, if_false]
   exact ih
theorem Env.at_killBor (E : Env) (V t : Nat) : (E.killBor V).at t = if isBor (E.at t) && rooted V (E.at t) then .dead else E.at t := by
 induction E with
 | nil => simp [Env.killBor, Env.at, rooted, roots]
 | cons q E ih =>
  obtain ⟨k, s⟩ := q
  simp only [Env.killBor, List.map_cons, Env.at]
  by_cases h : Nat.beq t k = true
  ·simp only [h, if_true]
  ·simp only [h, Bool.false_eq_true, if_false]
   exact ih
theorem Env.at_hole (E : Env) (bx : Bool) (V t : Nat) (p : List Step) : (E.hole bx V p).at t = holeS bx V p (E.at t) := by
 induction E with
 | nil => simp [Env.hole, Env.at, holeS, rooted, roots]
 | cons q E ih =>
  obtain ⟨k, s⟩ := q
  simp only [Env.hole, List.map_cons, Env.at]
  by_cases h : Nat.beq t k = true
  ·simp only [h, if_true]
  ·simp only [h, Bool.false_eq_true, if_false]
   exact ih
theorem Env.at_set (E : Env) (d t : Nat) (s : S) : (E.set d s).at t = if t = d then s else E.at t := by
 simp only [Env.set, Env.at]
 by_cases h : t = d
 ·subst h; simp [Nat.beq_refl]
 ·have : Nat.beq t d = false := by
   cases hb : Nat.beq t d
   ·rfl
   ·exact absurd (Nat.eq_of_beq_eq_true hb) h
  simp [this, h]
theorem SRep.rooted_nil {P : Program} {G : Nat × Bool → Bool} {w : World} {F : Nat → Prop} {T : Array Value} {e : Nat → S} {v : Value} : ∀ {s : S} {O : List Nat}, SRep P G w F T e v s O → ∀ {V}, V ∈ roots s → O = [] := by
 intro s
 induction s with
 | cnd g s ih =>
  intro O h V hV
  cases hg : G g
  ·exact (h.2 hg).2
  ·exact ih (h.1 hg) hV
 | ref _ _ => intro O h V _; exact h.1
 | bor _ _ => intro O h V _; exact h.1
 | ext _ _ => intro O h V _; exact h.1
 | clo _ _ => intro O h V _; exact h.1
 | bsl _ _ _ _ => intro O h V _; exact h.1
 | hrf _ _ => intro O h V _; exact h.1
 | dead => intro O h V hV; simp [roots] at hV
 | v _ _ _ => intro O h V hV; simp [roots] at hV
 | box _ _ _ => intro O h V hV; simp [roots] at hV
 | tup _ => intro O h V hV; simp [roots] at hV
 | nil => intro O h V hV; simp [roots] at hV
 | hol _ _ _ _ _ => intro O h V hV; simp [roots] at hV
theorem Place.det {w : World} : ∀ (p : List Step) {τ τ1 τ2 : Ty} {cs cs1 cs2 : List Value} {l l1 l2 : Option (Nat × Nat)}, Place w p τ cs l τ1 cs1 l1 → Place w p τ cs l τ2 cs2 l2 → τ1 = τ2 ∧ cs1 = cs2 ∧ l1 = l2 := by
 intro p
 induction p with
 | nil => intro τ τ1 τ2 cs cs1 cs2 l l1 l2 h1 h2; obtain ⟨rfl, rfl, rfl⟩ := h1; obtain ⟨rfl, rfl, rfl⟩ := h2; exact ⟨rfl, rfl, rfl⟩
 | cons s p ih =>
  intro τ τ1 τ2 cs cs1 cs2 l l1 l2 h1 h2
  cases s with
  | idx i => cases τ with
   | slice e =>
    obtain ⟨b, o, len, cap, c1, g1, g2, g3, g4, g5, h1⟩ := h1
    obtain ⟨b', o', len', cap', c1', g1', g2', g3', g4', g5', h2⟩ := h2
    rw [g1] at g1'
    simp only [List.cons.injEq, Value.slice.injEq, Option.some.injEq, Addr.mk.injEq, and_true] at g1'
    obtain ⟨⟨rfl, rfl⟩, rfl, rfl⟩ := g1'
    obtain rfl := g5.unique g5' (by omega)
    exact ih h1 h2
   | _ => exact h1.elim
  | fld f => cases τ with
   | st a =>
    obtain ⟨a1, g1, h1⟩ := h1
    obtain ⟨a2, g2, h2⟩ := h2
    rw [g1] at g2
    obtain rfl := Option.some.inj g2
    exact ih h1 h2
   | _ => exact h1.elim
section
variable {P : Program} {N : Nat} {w0 : Start} {w : World} {F0 F : Nat → Prop} {G : Nat × Bool → Bool} {e e' : Nat → S} {a : Act} {T : Array Value} {O O' : Nat → List Nat}
theorem Fr.less (h : Fr P N w0 F0 G e T w F O) (hr : ∀ t, SRep P G w F T e' (T.getD t undef) (e' t) (O' t)) (ho : ∀ t, (O' t).Nodup ∧ ∀ b ∈ O' t, b ∈ O t) : Fr P N w0 F0 G e' T w F O' :=
 ⟨h.size, h.fixed, h.below, h.sub, h.lt, h.old, hr, fun t => (ho t).1, fun t b hb => h.own t b ((ho t).2 b hb), fun t t' htt b hb hb' => h.apart t t' htt b ((ho t).2 b hb) ((ho t').2 b hb'), h.lays⟩
theorem solid_roots {s : S} (h : solid s = true) : roots s = [] := by
 cases s <;> first | rfl | simp [solid] at h
theorem Fr.turn (h : Fr P N w0 F0 G e T w F O) {V : Nat} {s : S} {On : List Nat} (hs : SRep P G w F T e (T.getD V undef) s On) (hV : roots s = []) (ho : On.Nodup ∧ ∀ b ∈ On, b ∈ O V) :
  Fr P N w0 F0 G (fun t => if t = V then s else if rooted V (e t) then .dead else e t) T w F (fun t => if t = V then On else O t) := by
 refine h.less (fun t => ?_) fun t => ?_
 ·by_cases ht : t = V
  ·subst ht
   simp only [if_true]
   exact hs.slot fun W hW => by rw [hV] at hW; cases hW
  ·simp only [ht, if_false]
   by_cases hrt : rooted V (e t) = true
   ·simp only [hrt, if_true]
    exact (h.rep t).rooted_nil (rooted_iff.1 hrt)
   ·simp only [hrt, Bool.false_eq_true, if_false]
    refine (h.rep t).slot fun W hW => ⟨rfl, fun hsol => ?_⟩
    have hne : W ≠ V := fun hc => hrt (rooted_iff.2 (hc ▸ hW))
    have hnr : rooted V (e W) = false := by simp [rooted, solid_roots hsol]
    simp [hne, hnr]
 ·by_cases ht : t = V
  ·subst ht; simpa using ho
  ·simp only [ht, if_false]; exact ⟨h.nodup t, fun b hb => hb⟩
theorem Env.kill_set (E : Env) (V : Nat) (s : S) : ((E.kill V).set V s).at = fun t => if t = V then s else if rooted V (E.at t) then .dead else E.at t := by
 funext t
 rw [Env.at_set]
 split
 ·rfl
 ·exact Env.at_kill E V t
theorem Fr.kill (h : Fr P N w0 F0 G e T w F O) (V : Nat) : Fr P N w0 F0 G (fun t => if rooted V (e t) then .dead else e t) T w F O := by
 refine h.less (fun t => ?_) fun t => ⟨h.nodup t, fun b hb => hb⟩
 by_cases hrt : rooted V (e t) = true
 ·simp only [hrt, if_true]
  exact (h.rep t).rooted_nil (rooted_iff.1 hrt)
 ·simp only [hrt, Bool.false_eq_true, if_false]
  refine (h.rep t).slot fun W hW => ⟨rfl, fun hsol => ?_⟩
  have hnr : rooted V (e W) = false := by simp [rooted, solid_roots hsol]
  simp [hnr]
theorem Place.keep {w1 : World} (hF : ∀ b, F b → w1.heap[b]? = w.heap[b]?) : ∀ (p : List Step) {τ : Ty} {n : Lv} {x : τ.den} {cs : List Value} {Ox : List Nat} {l : Option (Nat × Nat)} {τ' : Ty} {cs' : List Value} {l' : Option (Nat × Nat)}, Rep P τ n w F x cs Ox →
  (∀ b ∈ Ox, w1.heap[b]? = w.heap[b]?) → Place w p τ cs l τ' cs' l' → Place w1 p τ cs l τ' cs' l' := by
 intro p
 induction p with
 | nil => intro τ n x cs Ox l τ' cs' l' _ _ h; exact h
 | cons s p ih =>
  intro τ n x cs Ox l τ' cs' l' hr hb h
  cases s with
  | idx i => cases τ with
   | slice e1 =>
    obtain ⟨b, o, len, cap, cs1, hcs, hi0, hil, hcl1, hat1, hp⟩ := h
    obtain ⟨ad, cap', css, Os, hcs', hcap, hcl, hol, hr, hs⟩ := hr
    rw [hcs] at hcs'
    simp only [List.cons.injEq, Value.slice.injEq, and_true] at hcs'
    obtain ⟨rfl, hlen, rfl⟩ := hcs'
    subst hlen
    obtain ⟨hri, hli⟩ := hr i.toNat hil (by omega) (by omega)
    have hmem : ∀ c ∈ Os[i.toNat]'(by omega), c ∈ Os.flatten := fun c hc => List.mem_flatten.2 ⟨_, List.getElem_mem (by omega), hc⟩
    have key : ∀ (hb0 : w1.heap[b]? = w.heap[b]?) (hat : ∀ i (h1 : i < css.length), At w b (o + i * e1.sz) css[i]) (hOs : ∀ c ∈ Os.flatten, w1.heap[c]? = w.heap[c]?), Place w1 (.idx i :: p) (.slice e1) cs l τ' cs' l' := by
     intro hb0 hat hOs
     have hc1 : cs1 = css[i.toNat]'(by omega) := hat1.unique (hat i.toNat (by omega)) (by omega)
     rw [← hc1] at hri
     exact ⟨b, o, x.length, cap, cs1, hcs, hi0, hil, hcl1, hat1.congr hb0, ih hri (fun c hc => hOs c (hmem c hc)) hp⟩
    rcases hs with ⟨_, rfl, hx | ⟨b', o', hab, hFb, hat⟩⟩ | ⟨hn0, hc0, _⟩ | ⟨hn0, b', o', hab, hat, hown, rfl⟩
    ·subst hx; simp at hil
    ·simp only [Option.some.injEq, Addr.mk.injEq, and_true] at hab
     obtain ⟨rfl, rfl⟩ := hab
     exact key (hF _ hFb) hat hb
    ·omega
    ·simp only [Option.some.injEq, Addr.mk.injEq, and_true] at hab
     obtain ⟨rfl, rfl⟩ := hab
     exact key (hb _ (List.mem_cons_self ..)) hat fun c hc => hb c (List.mem_cons_of_mem _ hc)
   | _ => exact h.elim
  | fld f => cases τ with
   | st a1 =>
    obtain ⟨a2, ha2, hp⟩ := h
    have key : ∀ {b1 : Ty} {n : Lv} {f : Nat} {a2 : Ty} {x : b1.den} {cs : List Value} {Ox : List Nat}, Rep P b1 n w F x cs Ox → fldTy b1 f = some a2 → ∃ n2 y Oy, Rep P a2 n2 w F y ((cs.drop (fldOff b1 f)).take a2.sz) Oy ∧ ∀ c ∈ Oy, c ∈ Ox := by
     intro b1
     induction b1 with
     | prod c1 c2 ih1 ih2 =>
      intro n f a2 x cs Ox hr hf
      obtain ⟨d1, d2, O1, O2, rfl, rfl, l1, l2, r1, r2⟩ := hr
      cases f with
      | zero =>
       simp only [fldTy, Option.some.injEq] at hf
       subst hf
       refine ⟨n.fst, x.1, O1, ?_, fun c hc => List.mem_append_left _ hc⟩
       simp only [fldOff, List.drop_zero]
       rw [← l1, List.take_left]
       exact r1
      | succ f =>
       obtain ⟨n2, y, Oy, k1, k2⟩ := ih2 r2 hf
       refine ⟨n2, y, Oy, ?_, fun c hc => List.mem_append_right _ (k2 c hc)⟩
       simp only [fldOff]
       rw [List.drop_append, List.drop_eq_nil_of_le (by omega), List.nil_append, l1, show c1.sz + fldOff c2 f - c1.sz = fldOff c2 f from by omega]
       exact k1
     | _ =>
      intro n f a2 x cs Ox hr hf
      cases f <;> simp only [fldTy, Option.some.injEq, reduceCtorEq] at hf
      subst hf
      refine ⟨n, x, Ox, ?_, fun c hc => hc⟩
      simp only [fldOff, List.drop_zero]
      rw [List.take_of_length_le (by rw [hr.length]; exact Nat.le_refl _)]
      exact hr
    obtain ⟨n2, y, Oy, k1, k2⟩ := key (b1 := a1) hr ha2
    exact ⟨a2, ha2, ih k1 (fun c hc => hb c (k2 c hc)) hp⟩
   | _ => exact h.elim
theorem PlaceOf.keep {w1 : World} {V : Nat} (hF : ∀ b, F b → w1.heap[b]? = w.heap[b]?) (hV : SRep P G w F T e (T.getD V undef) (e V) (O V)) (hO : ∀ b ∈ O V, w1.heap[b]? = w.heap[b]?) {p : List Step} {τ' : Ty} {cs' : List Value} {l' : Option (Nat × Nat)}
  (h : PlaceOf w (e V) (T.getD V undef) p τ' cs' l') : PlaceOf w1 (e V) (T.getD V undef) p τ' cs' l' := by
 obtain ⟨τ, cs, l, hroot, hp⟩ := h
 cases hs : e V <;> rw [hs] at hroot hV <;> try exact hroot.elim
 ·obtain ⟨rfl, hv, rfl⟩ := hroot
  obtain ⟨cs2, hv2, hrep⟩ := hV
  obtain rfl := hv.inj hv2
  exact ⟨_, _, _, ⟨rfl, hv, rfl⟩, Place.keep hF p hrep hO hp⟩
 ·obtain ⟨rfl, b, el, hv, hb, rfl⟩ := hroot
  obtain ⟨b', cs2, el', O2, hv', hb', hrep, hOe⟩ := hV
  rw [hv] at hv'
  simp only [Value.pointer.injEq, Option.some.injEq, Addr.mk.injEq, and_true] at hv'
  subst hv'
  rw [hb] at hb'
  simp only [Option.some.injEq, Obj.cells.injEq, and_true] at hb'
  have hc : cs = cs2 := by simpa using congrArg Array.toList hb'.1
  subst hc
  exact ⟨_, _, _, ⟨rfl, b, el, hv, by rw [hO b (by rw [hOe]; exact List.mem_cons_self ..)]; exact hb, rfl⟩, Place.keep hF p hrep (fun c hc => hO c (by rw [hOe]; exact List.mem_cons_of_mem _ hc)) hp⟩
theorem Wand.keep {w1 : World} {F1 : Nat → Prop} (he : Ext w F w1 F1) {n : Lv} {τ : Ty} {x : τ.den} {p : List Step} {l : Option (Nat × Nat)} {cs : List Value} {Ox : List Nat} (h : Wand P w F n τ x p l cs Ox) (hO : ∀ b ∈ Ox, w1.heap[b]? = w.heap[b]?) (hl : ∀ b o, l = some (b, o) → w1.heap[b]? = w.heap[b]?) : Wand P w1 F1 n τ x p l cs Ox := by
 obtain ⟨t, b, o, cs', ln, h1, h2, h3, h4, h4', h4'', hob, hst, h5⟩ := h
 have hbs : ∀ c, (c ∈ Ox ∨ ∃ o', l = some (c, o')) → BSame w w1 c := fun c hc => by
  rcases hc with hc | ⟨o', hc⟩
  ·exact .of_heap (hO c hc)
  ·exact .of_heap (hl c o' hc)
 refine ⟨t, b, o, cs', ln, h1, hst w1 fun c hc => hbs c (.inl hc), h3, h4, h4', h4''.same (hbs b h4), (hbs b h4).own _ hob, fun w2 hs => hst w2 fun c hc => ⟨fun j => ((hs c hc).cell j).trans ((hbs c (.inl hc)).cell j), fun n hn => (hs c hc).own n ((hbs c (.inl hc)).own n hn)⟩,
  fun w2 F2 y cs1 O1 xn lv hlv hp he2 hc hr => h5 w2 F2 y cs1 O1 xn lv hlv hp (he.trans he2) (fun c hcc => ChgAt.pre (hbs c hcc) (hc c hcc)) hr⟩
theorem SRep.keep {w1 : World} {F1 : Nat → Prop} (he : Ext w F w1 F1) (hO : ∀ t, ∀ b ∈ O t, w1.heap[b]? = w.heap[b]?) (hrep : ∀ t, SRep P G w F T e (T.getD t undef) (e t) (O t)) {v : Value} : ∀ {s : S} {Os : List Nat}, SRep P G w F T e v s Os →
  (∀ b ∈ Os, w1.heap[b]? = w.heap[b]?) → SRep P G w1 F1 T e v s Os := by
 intro s
 induction s with
 | dead => intro Os h _; exact h
 | v n τ x => intro Os h hb; obtain ⟨cs, h1, h2⟩ := h; exact ⟨cs, h1, h2.mono he fun b hb' => .of_heap (hb b hb')⟩
 | box n τ x =>
  intro Os h hb
  obtain ⟨b, cs, el, O2, h1, h2, h3, rfl⟩ := h
  exact ⟨b, cs, el, O2, h1, by rw [hb b (List.mem_cons_self ..)]; exact h2, h3.mono he fun b hb' => .of_heap (hb b (List.mem_cons_of_mem _ hb')), rfl⟩
 | ref V p => intro Os h _; obtain ⟨h0, b, o, τ', cs', h1, h2⟩ := h; exact ⟨h0, b, o, τ', cs', h1, h2.keep he.keep (hrep V) (hO V)⟩
 | bor V p =>
  intro Os h _
  obtain ⟨h0, h | ⟨τ', cs', l, h1, h2⟩⟩ := h
  ·exact ⟨h0, .inl h⟩
  ·exact ⟨h0, .inr ⟨τ', cs', l, h1, h2.keep he.keep (hrep V) (hO V)⟩⟩
 | ext V i => intro Os h _; exact h
 | clo f caps => intro Os h _; exact h
 | tup rs => intro Os h hb; obtain ⟨vs, h1, h2⟩ := h; exact ⟨vs, h1, h2.mono he fun b hb' => .of_heap (hb b hb')⟩
 | nil => intro Os h _; exact h
 | bsl V p lo hi => intro Os h _; obtain ⟨h0, a, len, cap, e1, cs', l, h1, h2, h3⟩ := h; exact ⟨h0, a, len, cap, e1, cs', l, h1, h2.keep he.keep (hrep V) (hO V), h3⟩
 | hol bx n τ x p =>
  intro Os h hb
  cases bx with
  | false =>
   obtain ⟨cs, h1, h1', h2, h3⟩ := h
   exact ⟨cs, h1, h1', h2, h3.keep he hb (by simp)⟩
  | true =>
   obtain ⟨b, cs, el, O2, h1, h2, h2', h3, rfl⟩ := h
   refine ⟨b, cs, el, O2, h1, by rw [hb b (List.mem_cons_self ..)]; exact h2, h2', h3.keep he (fun b hb' => hb b (List.mem_cons_of_mem _ hb')) ?_, rfl⟩
   intro b' o' hb'
   simp only [Option.some.injEq, Prod.mk.injEq] at hb'
   obtain ⟨rfl, _⟩ := hb'
   exact hb b (List.mem_cons_self ..)
 | hrf V l =>
  intro Os h _
  refine ⟨h.1, fun hl => ?_⟩
  obtain ⟨bx, n, σ, x, p, b, o, τ', cs, cs', l', k1, k2, k3, k4⟩ := h.2 hl
  have hV := hrep V
  rw [k1] at hV
  cases bx with
  | false =>
   obtain ⟨cs2, g1, g1', g2, g3⟩ := hV
   obtain ⟨k3, rfl⟩ := k3
   obtain rfl := k3.inj g1
   obtain ⟨t, b2, o2, cs3, _, w1', w2, w3, w4, w5, w6, _, hst, _⟩ := g3
   have hdet := Place.det p k4 w2
   obtain ⟨rfl, rfl, hl⟩ := hdet
   simp only [Option.some.injEq, Prod.mk.injEq] at hl
   obtain ⟨rfl, rfl⟩ := hl
   exact ⟨false, n, σ, x, p, b, o, t.1, cs, _, none, k1, k2, ⟨k3, rfl⟩, hst w1 fun c hc => .of_heap (hO V c hc)⟩
  | true =>
   obtain ⟨b1, cs2, el, O2, g1, g2, g2', g3, hOV⟩ := hV
   obtain ⟨b1', el', k3, k3', rfl⟩ := k3
   rw [g1] at k3
   simp only [Value.pointer.injEq, Option.some.injEq, Addr.mk.injEq, and_true] at k3
   subst k3
   rw [g2] at k3'
   simp only [Option.some.injEq, Obj.cells.injEq, and_true] at k3'
   have hc : cs2 = cs := by simpa using congrArg Array.toList k3'.1
   subst hc
   obtain ⟨t, b2, o2, cs3, _, w1', w2, w3, w4, w5, w6, _, hst, _⟩ := g3
   have hdet := Place.det p k4 w2
   obtain ⟨rfl, rfl, hl⟩ := hdet
   simp only [Option.some.injEq, Prod.mk.injEq] at hl
   obtain ⟨rfl, rfl⟩ := hl
   exact ⟨true, n, σ, x, p, b, o, t.1, cs2, _, some (b1, 0), k1, k2, ⟨b1, el, g1, by rw [hO V b1 (by rw [hOV]; exact List.mem_cons_self ..)]; exact g2, rfl⟩, hst w1 fun c hc => .of_heap (hO V c (by rw [hOV]; exact List.mem_cons_of_mem _ hc))⟩
 | cnd g s ih =>
  intro Os h hb
  exact ⟨fun hg => ih (h.1 hg) hb, h.2⟩
end
end Go.Tom
set_option linter.unusedVariables false
set_option linter.unusedSimpArgs false
namespace Go.Tom
open Go
theorem place_some {w : World} : ∀ (p : List Step) {τ τ' : Ty} {cs cs' : List Value} {l l' : Option (Nat × Nat)}, Place w p τ cs l τ' cs' l' → (0 < idxs p ∨ ∃ q, l = some q) → ∃ b o, l' = some (b, o) := by
 intro p
 induction p with
 | nil =>
  intro τ τ' cs cs' l l' h hh
  obtain ⟨rfl, rfl, rfl⟩ := h
  rcases hh with hh | ⟨⟨b, o⟩, hh⟩
  ·simp [idxs] at hh
  ·exact ⟨b, o, hh⟩
 | cons s p ih =>
  intro τ τ' cs cs' l l' h hh
  cases s with
  | idx i => cases τ with
   | slice e => obtain ⟨b, o, len, cap, c1, _, _, _, _, _, hp⟩ := h; exact ih hp (.inr ⟨_, rfl⟩)
   | _ => exact h.elim
  | fld f => cases τ with
   | st a =>
    obtain ⟨a1, _, hp⟩ := h
    refine ih hp ?_
    rcases hh with hh | ⟨q, rfl⟩
    ·exact .inl (by simpa [idxs] using hh)
    ·exact .inr ⟨_, rfl⟩
   | _ => exact h.elim
theorem pathEq_eq : ∀ {p q : List Step} {l : List Prop}, pathEq p q = some l → (∀ x ∈ l, x) → p = q
 | [], [], _, _, _ => rfl
 | [], _ :: _, _, h, _ => by simp [pathEq] at h
 | .fld i :: p, [], _, h, _ => by simp [pathEq] at h
 | .idx i :: p, [], _, h, _ => by simp [pathEq] at h
 | .fld i :: p, .fld j :: q, l, h, hl => by
  simp only [pathEq] at h
  split at h
  ·rename_i hb
   rw [Nat.eq_of_beq_eq_true hb, pathEq_eq h hl]
  ·simp at h
 | .idx i :: p, .idx j :: q, l, h, hl => by
  simp only [pathEq, Option.map_eq_some_iff] at h
  obtain ⟨l', h, rfl⟩ := h
  have := hl _ (List.mem_cons_self ..)
  rw [this, pathEq_eq h fun x hx => hl x (List.mem_cons_of_mem _ hx)]
 | .fld i :: p, .idx j :: q, _, h, _ => by simp [pathEq] at h
 | .idx i :: p, .fld j :: q, _, h, _ => by simp [pathEq] at h
theorem flatten_sub {α : Type} {l l' : List (List α)} (h : l.Sublist l') : l.flatten.Sublist l'.flatten := by
 induction h with
 | slnil => exact List.Sublist.refl _
 | cons a _ ih => rw [List.flatten_cons]; exact ih.trans (List.sublist_append_right _ _)
 | cons_cons a _ ih => rw [List.flatten_cons, List.flatten_cons]; exact ih.append_left a
section
variable {P : Program} {N : Nat} {w0 : Start} {w : World} {F0 F : Nat → Prop} {G : Nat × Bool → Bool} {e : Nat → S} {a : Act} {T : Array Value} {O : Nat → List Nat}
theorem Fr.hole (h : Fr P N w0 F0 G e T w F O) {V : Nat} {p : List Step} {bx : Bool} {n : Lv} {σ : Ty} {x : σ.den} {On : List Nat} (hs : SRep P G w F T e (T.getD V undef) (.hol bx n σ x p) On)
  (hV : e V = if bx then .box n σ x else .v n σ x) (ho : On.Nodup ∧ ∀ b ∈ On, b ∈ O V) :
  Fr P N w0 F0 G (fun t => if t = V then .hol bx n σ x p else holeS bx V p (e t)) T w F (fun t => if t = V then On else O t) := by
 have hroot : ∀ {τ cs l}, RootAt w (e V) (T.getD V undef) τ cs l → σ = τ ∧ RootHol w bx (T.getD V undef) τ cs l := by
  intro τ cs l hr
  rw [hV] at hr
  cases bx
  ·obtain ⟨rfl, h1, h2⟩ := hr; exact ⟨rfl, h1, h2⟩
  ·obtain ⟨rfl, b, el, h1, h2, h3⟩ := hr; exact ⟨rfl, b, el, h1, h2, h3⟩
 refine h.less (fun t => ?_) fun t => ?_
 ·by_cases ht : t = V
  ·subst ht
   simp only [if_true]
   exact hs.slot fun W hW => by simp [roots] at hW
  ·simp only [ht, if_false]
   have hrt := h.rep t
   have other : ∀ {s : S}, e t = s → rooted V s = false → SRep P G w F T (fun t => if t = V then .hol bx n σ x p else holeS bx V p (e t)) (T.getD t undef) s (O t) := by
    intro s hs hr
    rw [hs] at hrt
    refine hrt.slot fun W hW => ⟨rfl, fun hsol => ?_⟩
    have hne : W ≠ V := fun hc => by rw [← hc, rooted_iff.2 hW] at hr; simp at hr
    simp only [hne, if_false]
    cases hW' : e W <;> rw [hW'] at hsol <;> first | (simp [solid] at hsol; done) | simp [holeS, rooted, roots]
   have dead : rooted V (e t) = true → O t = [] := fun hr => hrt.rooted_nil (rooted_iff.1 hr)
   cases het : e t with
   | ref W q =>
    simp only [holeS]
    by_cases hVW : Nat.beq V W = true
    ·simp only [hVW, if_true]
     obtain rfl := Nat.eq_of_beq_eq_true hVW
     have hO : O t = [] := dead (by rw [het]; simp [rooted, roots, Nat.beq_refl])
     cases hpe : pathEq q p with
     | none => exact hO
     | some l =>
      refine ⟨hO, fun hl => ?_⟩
      have hqp := pathEq_eq hpe (AllP_iff.1 hl)
      subst hqp
      rw [het] at hrt
      obtain ⟨_, b, o, τ', cs', h1, τ, cs, l0, hr, hp⟩ := hrt
      obtain ⟨rfl, hh⟩ := hroot hr
      exact ⟨bx, n, σ, x, q, b, o, τ', cs, cs', l0, by simp, h1, hh, hp⟩
    ·simp only [hVW, Bool.false_eq_true, if_false]
     refine other het ?_
     simp only [rooted, roots, List.any_cons, List.any_nil, Bool.or_false]
     cases hb : Nat.beq V W
     ·rfl
     ·exact absurd hb hVW
   | bor W q =>
    simp only [holeS]
    by_cases hVW : Nat.beq V W = true
    ·obtain rfl := Nat.eq_of_beq_eq_true hVW
     have hO : O t = [] := dead (by rw [het]; simp [rooted, roots, Nat.beq_refl])
     split
     ·rename_i hk
      simp only [Nat.beq_refl, Bool.not_true, Bool.or_false] at hk
      unfold keepBor at hk
      split at hk
      ·refine ⟨hO, .inl ⟨by simp [passive], rfl, ?_⟩⟩
       rw [het] at hrt
       obtain ⟨_, ⟨k1, _, _⟩ | ⟨τ', cs', l, k1, τ1, cs, l0, hr, hp⟩⟩ := hrt
       ·rw [hV] at k1; simp [passive] at k1
       ·obtain ⟨rfl, hh, _⟩ := hroot hr
        obtain ⟨rfl, rfl, _⟩ := hp
        exact k1.inj' hh
      ·simp at hk
     ·exact hO
    ·rw [Bool.not_eq_true] at hVW
     simp only [hVW, Bool.not_false, Bool.or_true, if_true]
     exact other het (by simp [rooted, roots, hVW])
   | _ =>
    simp only [holeS]
    split
    ·rename_i hr
     exact dead (by rw [het]; exact hr)
    ·rename_i hr
     exact other het (by simpa using hr)
 ·by_cases ht : t = V
  ·subst ht; simpa using ho
  ·simp only [ht, if_false]; exact ⟨h.nodup t, fun b hb => hb⟩
def Taken (P : Program) (N : Nat) (w0 : Start) (F0 : Nat → Prop) (G : Nat × Bool → Bool) (T : Array Value) (w : World) (F : Nat → Prop) (O : Nat → List Nat) (E' : Env) (n : Lv) (t : TV) (v : Value) : Prop :=
 ∃ O' Ot cs, Fr P N w0 F0 G E'.at T w F O' ∧ VS t.1 v cs ∧ Rep P t.1 n w F t.2 cs Ot ∧ Ot.Nodup ∧ (∀ b ∈ Ot, ¬ w0.pr b ∧ b < w.heap.size ∧ ¬ F b ∧ ∀ u, b ∉ O' u) ∧ (∀ b ∈ Ot, ∃ u, b ∈ O u) ∧ ∀ u, ∀ b ∈ O' u, b ∈ O u
theorem Taken.free {E : Env} (h : Fr P N w0 F0 G E.at T w F O) {n : Lv} {t : TV} {v : Value} {cs : List Value} (hv : VS t.1 v cs) (hr : Rep P t.1 n w F t.2 cs []) : Taken P N w0 F0 G T w F O E n t v :=
 ⟨O, [], cs, h, hv, hr, List.nodup_nil, (fun b hb => by cases hb), (fun b hb => by cases hb), fun u b hb => hb⟩
theorem Taken.all {E : Env} (h : Fr P N w0 F0 G E.at T w F O) {V : Nat} {n : Lv} {t : TV} {v : Value} {cs : List Value} {Ot : List Nat} (hv : VS t.1 v cs) (hr : Rep P t.1 n w F t.2 cs Ot) (hO : Ot.Nodup ∧ ∀ b ∈ Ot, b ∈ O V) :
  Taken P N w0 F0 G T w F O ((E.kill V).set V .dead) n t v := by
 have hf := h.turn (V := V) (s := .dead) (On := []) rfl rfl ⟨List.nodup_nil, fun b hb => by cases hb⟩
 rw [← Env.kill_set] at hf
 refine ⟨_, Ot, cs, hf, hv, hr, hO.1, fun b hb => ?_, fun b hb => ⟨V, hO.2 b hb⟩, fun u b hb => by
  by_cases hu : u = V
  ·simp [hu] at hb
  ·simpa only [hu, if_false] using hb⟩
 obtain ⟨h1, h2, h3⟩ := h.own V b (hO.2 b hb)
 refine ⟨h1, h2, h3, fun u => ?_⟩
 by_cases hu : u = V
 ·simp [hu]
 ·simp only [hu, if_false]
  exact h.apart V u (Ne.symm hu) b (hO.2 b hb)
theorem TupRep.take {rs : List (Option Res)} {vs : List Value} {Ov : List Nat} (h : TupRep P w F rs vs Ov) : ∀ {i : Nat} {r : Res}, rs[i]? = some (some r) → ∃ v cs Oi Or, vs[i]? = some v ∧ VS r.τ v cs ∧ Rep P r.τ r.n w F r.x cs Oi ∧ Ov.Perm (Oi ++ Or) ∧ TupRep P w F (rs.set i none) vs Or := by
 induction rs generalizing vs Ov with
 | nil => intro i r hi; simp at hi
 | cons q rs ih =>
  intro i r hi
  cases q with
  | none =>
   obtain ⟨v, vs', rfl, h⟩ := h
   cases i with
   | zero => simp at hi
   | succ i =>
    obtain ⟨v', cs', Oi, Or, k1, k2, k3, k4, k5⟩ := ih h (by simpa using hi)
    exact ⟨v', cs', Oi, Or, k1, k2, k3, k4, v, vs', rfl, k5⟩
  | some q =>
   obtain ⟨v, vs', cs, O1, O2, rfl, rfl, h1, h2, h3⟩ := h
   cases i with
   | zero =>
    simp only [List.getElem?_cons_zero, Option.some.injEq] at hi
    subst hi
    exact ⟨v, cs, O1, O2, rfl, h1, h2, List.Perm.refl _, v, vs', rfl, h3⟩
   | succ i =>
    obtain ⟨v', cs', Oi, Or, k1, k2, k3, k4, k5⟩ := ih h3 (by simpa using hi)
    refine ⟨v', cs', Oi, O1 ++ Or, k1, k2, k3, ?_, v, vs', cs, O1, Or, rfl, rfl, h1, h2, k5⟩
    refine (k4.append_left O1).trans ?_
    rw [← List.append_assoc, ← List.append_assoc]
    exact List.perm_append_comm.append_right Or
theorem take_sound {E : Env} (h : Fr P N w0 F0 G E.at a.tmps w F O) {r : RS} {v : Value} (hr : RSOk P G w F E.at a O r v) {Tx : Option Ty} {n : Lv} {t : TV} {E' : Env} (hev : takeV E Tx r = some (n, t, E')) : Taken P N w0 F0 G a.tmps w F O E' n t v := by
 obtain ⟨⟨Or, hrep, hOr⟩, hrt, hslot⟩ := hr
 unfold takeV at hev
 split at hev
 ·
  split at hev
  ·simp only [Option.some.injEq, Prod.mk.injEq] at hev
   obtain ⟨rfl, rfl, rfl⟩ := hev
   obtain ⟨_, rfl⟩ := hrep
   exact Taken.free h (cs := [.slice none 0 0]) rfl ⟨none, 0, [], [], rfl, Nat.le_refl _, rfl, rfl, fun i hi => absurd hi (by simp), .inr (.inl ⟨by decide, rfl, rfl⟩)⟩
  ·simp at hev
 ·
  split at hev
  ·rename_i hf
   simp only [Option.some.injEq, Prod.mk.injEq] at hev
   obtain ⟨rfl, rfl, rfl⟩ := hev
   obtain ⟨cs, h1, h2⟩ := hrep
   exact Taken.free h h1 ((h2.flat hf).2 _ _ _)
  ·simp at hev
 ·
  rename_i V n0 τ x rr
  obtain ⟨hV, hv⟩ := hslot V rfl
  have hVr := h.rep V
  rw [hV, ← hv] at hVr
  obtain ⟨cs, h1, h2⟩ := hVr
  split at hev
  ·rename_i hf
   simp only [Option.some.injEq, Prod.mk.injEq] at hev
   obtain ⟨rfl, rfl, rfl⟩ := hev
   exact Taken.free h h1 ((h2.flat hf).2 _ _ _)
  ·split at hev
   ·rename_i hn
    simp only [Option.some.injEq, Prod.mk.injEq] at hev
    obtain ⟨rfl, rfl, rfl⟩ := hev
    exact Taken.free h h1 (h2.zlv hn).2
   ·simp only [Option.some.injEq, Prod.mk.injEq] at hev
    obtain ⟨rfl, rfl, rfl⟩ := hev
    exact Taken.all h h1 h2 ⟨h.nodup V, fun b hb => hb⟩
 ·
  rename_i to V n0 τ x
  simp only [roots, List.map_cons, List.map_nil, List.cons.injEq, and_true] at hrt
  simp only [Option.some.injEq, Prod.mk.injEq] at hev
  obtain ⟨rfl, rfl, rfl⟩ := hev
  obtain ⟨_, ⟨hrs, _, _⟩ | ⟨τ', cs', l, hv, τ1, cs, l0, hroot, hp⟩⟩ := hrep
  ·rw [← hrt] at hrs; simp [passive] at hrs
  ·obtain ⟨rfl, rfl, rfl⟩ := hp
   have hVr := h.rep V
   rw [← hrt] at hroot hVr
   obtain ⟨rfl, hv2, rfl⟩ := hroot
   obtain ⟨cs2, k1, k2⟩ := hVr
   obtain rfl := hv2.inj k1
   exact Taken.all h hv k2 ⟨h.nodup V, fun b hb => hb⟩
 ·
  rename_i to V n0 τ x
  simp only [roots, List.map_cons, List.map_nil, List.cons.injEq, and_true] at hrt
  simp only [Option.some.injEq, Prod.mk.injEq] at hev
  obtain ⟨rfl, rfl, rfl⟩ := hev
  obtain ⟨_, ⟨hrs, _, _⟩ | ⟨τ', cs', l, hv, τ1, cs, l0, hroot, hp⟩⟩ := hrep
  ·rw [← hrt] at hrs; simp [passive] at hrs
  ·obtain ⟨rfl, rfl, rfl⟩ := hp
   have hVr := h.rep V
   rw [← hrt] at hroot hVr
   obtain ⟨rfl, b0, el, hv2, hb0, rfl⟩ := hroot
   obtain ⟨b1, cs2, el1, O1, k1, k1', k2, kO⟩ := hVr
   rw [hv2] at k1
   simp only [Value.pointer.injEq, Option.some.injEq, Addr.mk.injEq, and_true] at k1
   subst k1
   rw [hb0] at k1'
   simp only [Option.some.injEq, Obj.cells.injEq, and_true] at k1'
   have hcc : cs' = cs2 := by simpa using congrArg Array.toList k1'.1
   subst hcc
   have hndV := h.nodup V
   rw [kO, List.nodup_cons] at hndV
   exact Taken.all h hv k2 ⟨hndV.2, fun b hb => by rw [kO]; exact List.mem_cons_of_mem _ hb⟩
 ·
  rename_i to V s p n0 τ x
  simp only [roots, List.map_cons, List.map_nil, List.cons.injEq, and_true] at hrt
  split at hev
  ·rename_i t' hg
   split at hev
   rotate_left
   ·simp at hev
   rename_i ln hle
   split at hev
   ·rename_i hc
    simp only [Option.some.injEq, Prod.mk.injEq] at hev
    obtain ⟨rfl, rfl, rfl⟩ := hev
    have hpos := Nat.le_of_ble_eq_true hc
    obtain ⟨_, ⟨hrs, _, _⟩ | ⟨τ', cs', l, hv, τ1, cs, l0, hroot, hp⟩⟩ := hrep
    ·rw [← hrt] at hrs; simp [passive] at hrs
    ·have hVr := h.rep V
     have hroot' := hroot
     rw [← hrt] at hroot' hVr
     obtain ⟨rfl, hv2, rfl⟩ := hroot'
     obtain ⟨cs2, k1, k2⟩ := hVr
     obtain rfl := hv2.inj k1
     have hty := Place.ty _ hp hg
     subst hty
     obtain ⟨Oc, Orr, hperm, hrc, hat, hlb, hst, hw⟩ := focus (s :: p) k2 (h.nodup V) hle hp hg (by simp) (by simp)
     obtain ⟨b, o, rfl⟩ := place_some _ hp (.inl (by omega))
     have hnd := hperm.nodup_iff.1 (h.nodup V)
     have hmem : ∀ c ∈ Orr, c ∈ O V := fun c hc => hperm.mem_iff.2 (List.mem_append_right _ hc)
     have hbOr : b ∈ Orr := by
      rcases hlb b o rfl with hb | ⟨hz, _⟩
      ·exact hb
      ·omega
     have hhol : SRep P G w F a.tmps E.at (a.tmps.getD V undef) (.hol false n0 τ x (s :: p)) Orr := by
      refine ⟨cs, hv2, k2.length, by omega, t', b, o, cs', _, hg, hp, hle, .inl hbOr, hrc.length, hat b o rfl, k2.owned_blk b (hmem b hbOr), fun w1 hs1 => hst w1 hs1, fun w1 F1 y cs1 O1 xn lv hlv hput he hch hrr => ?_⟩
      exact hw w1 F1 y cs1 O1 xn lv hlv hput he hch hrr
     have hf := h.hole (p := s :: p) (bx := false) hhol (by simpa using hrt.symm) ⟨(List.nodup_append.1 hnd).2.1, hmem⟩
     have hE : ((E.hole false V (s :: p)).set V (.hol false n0 τ x (s :: p))).at = fun t => if t = V then .hol false n0 τ x (s :: p) else holeS false V (s :: p) (E.at t) := by
      funext u; rw [Env.at_set]; split
      ·rfl
      ·exact Env.at_hole E _ V u _
     rw [← hE] at hf
     refine ⟨_, Oc, cs', hf, hv, hrc, (List.nodup_append.1 hnd).1, fun c hc => ?_, fun c hc => ⟨V, hperm.mem_iff.2 (List.mem_append_left _ hc)⟩, fun u c hc => by
      by_cases hu : u = V
      ·subst hu; simp only [if_true] at hc; exact hmem c hc
      ·simpa only [hu, if_false] using hc⟩
     have hcV : c ∈ O V := hperm.mem_iff.2 (List.mem_append_left _ hc)
     obtain ⟨g1, g2, g3⟩ := h.own V c hcV
     refine ⟨g1, g2, g3, fun u => ?_⟩
     by_cases hu : u = V
     ·simp only [hu, if_true]
      exact fun hc' => (List.nodup_append.1 hnd).2.2 c hc c hc' rfl
     ·simp only [hu, if_false]
      exact h.apart V u (Ne.symm hu) c hcV
   ·simp at hev
  ·simp at hev
 ·
  rename_i to V s p n0 τ x
  simp only [roots, List.map_cons, List.map_nil, List.cons.injEq, and_true] at hrt
  split at hev
  ·rename_i t' hg
   split at hev
   ·rename_i ln hle
    simp only [Option.some.injEq, Prod.mk.injEq] at hev
    obtain ⟨rfl, rfl, rfl⟩ := hev
    obtain ⟨_, ⟨hrs, _, _⟩ | ⟨τ', cs', l, hv, τ1, cs, l0, hroot, hp⟩⟩ := hrep
    ·rw [← hrt] at hrs; simp [passive] at hrs
    ·have hVr := h.rep V
     have hroot' := hroot
     rw [← hrt] at hroot' hVr
     obtain ⟨rfl, b0, el, hv2, hb0, rfl⟩ := hroot'
     obtain ⟨b1, cs2, el1, O1, k1, k1', k2, kO⟩ := hVr
     rw [hv2] at k1
     simp only [Value.pointer.injEq, Option.some.injEq, Addr.mk.injEq, and_true] at k1
     subst k1
     rw [hb0] at k1'
     simp only [Option.some.injEq, Obj.cells.injEq, and_true] at k1'
     have hcc : cs = cs2 := by simpa using congrArg Array.toList k1'.1
     subst hcc
     have hty := Place.ty _ hp hg
     subst hty
     have hndV := h.nodup V
     rw [kO, List.nodup_cons] at hndV
     obtain ⟨Oc, Orr, hperm, hrc, hat, hlb, hst, hw⟩ := focus (s :: p) k2 hndV.2 hle hp hg (fun b o hb => by
      simp only [Option.some.injEq, Prod.mk.injEq] at hb; obtain ⟨rfl, _⟩ := hb; exact hndV.1) (fun b o hb => by
      simp only [Option.some.injEq, Prod.mk.injEq] at hb; obtain ⟨rfl, rfl⟩ := hb; exact at_heap hb0)
     obtain ⟨b, o, rfl⟩ := place_some _ hp (.inr ⟨_, rfl⟩)
     have hnd := hperm.nodup_iff.1 hndV.2
     have hmem : ∀ c ∈ Orr, c ∈ O1 := fun c hc => hperm.mem_iff.2 (List.mem_append_right _ hc)
     have hhol : SRep P G w F a.tmps E.at (a.tmps.getD V undef) (.hol true n0 τ x (s :: p)) (b0 :: Orr) := by
      refine ⟨b0, cs, el, Orr, hv2, hb0, k2.length, ⟨t', b, o, cs', _, hg, hp, hle, ?_, hrc.length, hat b o rfl, ?_, fun w1 hs1 => hst w1 hs1, fun w1 F1 y cs1 Ox xn lv hlv hput he hch hrr => hw w1 F1 y cs1 Ox xn lv hlv hput he hch hrr⟩, rfl⟩
      ·rcases hlb b o rfl with hb | ⟨_, hb⟩
       ·exact .inl hb
       ·exact .inr hb
      ·rcases hlb b o rfl with hb | ⟨_, o', hb⟩
       ·exact k2.owned_blk b (hmem b hb)
       ·simp only [Option.some.injEq, Prod.mk.injEq] at hb
        obtain ⟨rfl, _⟩ := hb
        exact ⟨_, el, hb0, Nat.zero_le _⟩
     have hf := h.hole (p := s :: p) (bx := true) hhol (by simpa using hrt.symm) ⟨by
      rw [List.nodup_cons]
      exact ⟨fun hc => hndV.1 (hmem _ hc), (List.nodup_append.1 hnd).2.1⟩, fun c hc => by
      rw [kO]
      rcases List.mem_cons.1 hc with rfl | hc
      ·exact List.mem_cons_self ..
      ·exact List.mem_cons_of_mem _ (hmem c hc)⟩
     have hE : ((E.hole true V (s :: p)).set V (.hol true n0 τ x (s :: p))).at = fun t => if t = V then .hol true n0 τ x (s :: p) else holeS true V (s :: p) (E.at t) := by
      funext u; rw [Env.at_set]; split
      ·rfl
      ·exact Env.at_hole E _ V u _
     rw [← hE] at hf
     refine ⟨_, Oc, cs', hf, hv, hrc, (List.nodup_append.1 hnd).1, fun c hc => ?_, fun c hc => ⟨V, by rw [kO]; exact List.mem_cons_of_mem _ (hperm.mem_iff.2 (List.mem_append_left _ hc))⟩, fun u c hc => by
      by_cases hu : u = V
      ·subst hu
       simp only [if_true] at hc
       rw [kO]
       rcases List.mem_cons.1 hc with rfl | hc
       ·exact List.mem_cons_self ..
       ·exact List.mem_cons_of_mem _ (hmem c hc)
      ·simpa only [hu, if_false] using hc⟩
     have hc1 : c ∈ O1 := hperm.mem_iff.2 (List.mem_append_left _ hc)
     have hcV : c ∈ O V := by rw [kO]; exact List.mem_cons_of_mem _ hc1
     obtain ⟨g1, g2, g3⟩ := h.own V c hcV
     refine ⟨g1, g2, g3, fun u => ?_⟩
     by_cases hu : u = V
     ·simp only [hu, if_true]
      intro hc'
      rcases List.mem_cons.1 hc' with rfl | hc'
      ·exact hndV.1 hc1
      ·exact (List.nodup_append.1 hnd).2.2 c hc c hc' rfl
     ·simp only [hu, if_false]
      exact h.apart V u (Ne.symm hu) c hcV
   ·simp at hev
  ·simp at hev
 ·
  rename_i to V lo hi n0 e1 xs
  simp only [roots, List.map_cons, List.map_nil, List.cons.injEq, and_true] at hrt
  split at hev
  ·simp at hev
  ·rename_i hn
   simp only [Option.some.injEq, Prod.mk.injEq] at hev
   obtain ⟨rfl, rfl, rfl⟩ := hev
   have hn' : n0.k ≠ 0 := fun hc => hn (by rw [hc]; rfl)
   obtain ⟨_, ad, len, cap, e2, cs', l, hv, ⟨τ1, cs, l0, hroot, hp⟩, rfl, g0, g1, g2⟩ := hrep
   obtain ⟨rfl, hcs, rfl⟩ := hp
   have hVr := h.rep V
   rw [← hrt] at hroot hVr
   obtain ⟨he1, hv2, rfl⟩ := hroot
   simp only [Ty.slice.injEq] at he1
   subst he1
   obtain ⟨cs2, k1, k2⟩ := hVr
   obtain rfl := hv2.inj k1
   obtain ⟨ad', cap', css, Os, hcs', hcap, hcl, hol, hrr, hs⟩ := k2
   rw [← hcs] at hcs'
   simp only [List.cons.injEq, Value.slice.injEq, and_true] at hcs'
   obtain ⟨rfl, rfl, rfl⟩ := hcs'
   have hlen := sl_length g0 g1 g2
   have hmemO : ∀ c ∈ ((Os.take hi.toNat).drop lo.toNat).flatten, c ∈ Os.flatten := by
    intro c hc
    obtain ⟨y, hy, hc⟩ := List.mem_flatten.1 hc
    exact List.mem_flatten.2 ⟨y, List.mem_of_mem_take (List.mem_of_mem_drop hy), hc⟩
   have hsub : ((Os.take hi.toNat).drop lo.toNat).flatten.Sublist Os.flatten := by
    exact flatten_sub ((List.drop_sublist _ _).trans (List.take_sublist _ _))
   have helem : ∀ i (h : i < (sl xs lo hi).length) (h1 : i < ((css.take hi.toNat).drop lo.toNat).length) (h2 : i < ((Os.take hi.toNat).drop lo.toNat).length), Rep P e1 (.n (n0.k - 1)) w F (sl xs lo hi)[i] ((css.take hi.toNat).drop lo.toNat)[i] ((Os.take hi.toNat).drop lo.toNat)[i] ∧ ((css.take hi.toNat).drop lo.toNat)[i].length = e1.sz := by
    intro i h h1 h2
    rw [hlen] at h
    simp only [sl, List.getElem_drop, List.getElem_take]
    exact hrr (lo.toNat + i) (by omega) (by omega) (by omega)
   have hv3 : VS (.slice e1) v [.slice (if cap = lo.toNat then ad else ad.map fun q => q.add (lo.toNat * e1.sz)) (hi - lo).toNat (cap - lo.toNat)] := by rw [hv]; rfl
   have hq1 : ((css.take hi.toNat).drop lo.toNat).length = (sl xs lo hi).length := by rw [hlen]; simp; omega
   have hq2 : ((Os.take hi.toNat).drop lo.toNat).length = (sl xs lo hi).length := by rw [hlen]; simp; omega
   have hq3 : (sl xs lo hi).length ≤ cap - lo.toNat := by rw [hlen]; omega
   by_cases hcz : cap = lo.toNat
   ·refine Taken.all h hv3 (Ot := []) ⟨_, cap - lo.toNat, (css.take hi.toNat).drop lo.toNat, (Os.take hi.toNat).drop lo.toNat, by rw [hlen], hq3, hq1, hq2, helem, .inr (.inl ⟨by omega, by omega, rfl⟩)⟩ ⟨List.nodup_nil, fun b hb => by cases hb⟩
   ·rcases hs with ⟨hn0, _⟩ | ⟨_, hc0, _⟩ | ⟨hn0, b, o, rfl, hat, hown, hOV⟩
    ·omega
    ·omega
    ·refine Taken.all h hv3 (Ot := b :: ((Os.take hi.toNat).drop lo.toNat).flatten) ⟨_, cap - lo.toNat, (css.take hi.toNat).drop lo.toNat, (Os.take hi.toNat).drop lo.toNat, by rw [hlen], hq3, hq1, hq2, helem,
      .inr (.inr ⟨by omega, b, o + lo.toNat * e1.sz, by simp [hcz, add_at], fun i h1 => ?_, ?_, rfl⟩)⟩ ⟨?_, ?_⟩
     ·simp only [List.length_drop, List.length_take] at h1
      simp only [List.getElem_drop, List.getElem_take]
      have := hat (lo.toNat + i) (by omega)
      rwa [Nat.add_mul, ← Nat.add_assoc] at this
     ·obtain ⟨c, el, q1, q2⟩ := hown
      refine ⟨c, el, q1, ?_⟩
      have : lo.toNat * e1.sz + (cap - lo.toNat) * e1.sz = cap * e1.sz := by rw [← Nat.add_mul]; congr 1; omega
      omega
     ·have hnd := h.nodup V
      rw [hOV, List.nodup_cons] at hnd
      rw [List.nodup_cons]
      exact ⟨fun hc => hnd.1 (hmemO _ hc), hnd.2.sublist hsub⟩
     ·intro c hc
      rw [hOV]
      rcases List.mem_cons.1 hc with rfl | hc
      ·exact List.mem_cons_self ..
      ·exact List.mem_cons_of_mem _ (hmemO c hc)
 ·
  rename_i to V i rs
  simp only [roots, List.map_cons, List.map_nil, List.cons.injEq, and_true] at hrt
  split at hev
  ·rename_i r hri
   simp only [Option.some.injEq, Prod.mk.injEq] at hev
   obtain ⟨rfl, rfl, rfl⟩ := hev
   obtain ⟨_, rs', vs, hrs, hT, hi⟩ := hrep
   rw [← hrt] at hrs
   simp only [S.tup.injEq] at hrs
   subst hrs
   have hVr := h.rep V
   rw [← hrt, hT] at hVr
   obtain ⟨vs', hvs', htup⟩ := hVr
   obtain rfl := Value.tuple.inj hvs'
   obtain ⟨v', cs, Oi, Orr, k1, k2, k3, k4, k5⟩ := htup.take hri
   simp only [List.getElem?_toArray] at hi
   rw [k1] at hi
   obtain rfl := Option.some.inj hi
   have hnd := k4.nodup_iff.1 (h.nodup V)
   have hmem : ∀ c ∈ Orr, c ∈ O V := fun c hc => k4.mem_iff.2 (List.mem_append_right _ hc)
   have hf : Fr P N w0 F0 G (E.set V (.tup (rs.set i none))).at a.tmps w F (fun t => if t = V then Orr else O t) := by
    refine h.less (fun u => ?_) fun u => ?_
    ·rw [Env.at_set]
     by_cases hu : u = V
     ·subst hu
      simp only [if_true]
      rw [hT]
      exact ⟨vs', rfl, k5⟩
     ·simp only [hu, if_false]
      have hu' := h.rep u
      have key : ∀ {s : S} {Os : List Nat} {vv : Value}, SRep P G w F a.tmps E.at vv s Os → SRep P G w F a.tmps (E.set V (.tup (rs.set i none))).at vv s Os := by
       intro s
       induction s with
       | ref W q =>
        intro Os vv hh
        obtain ⟨h0, b, o, τ', cs', h1, h2⟩ := hh
        refine ⟨h0, b, o, τ', cs', h1, ?_⟩
        rw [Env.at_set]
        split
        ·rename_i hW; rw [hW, ← hrt] at h2; obtain ⟨_, _, _, hc, _⟩ := h2; exact hc.elim
        ·exact h2
       | bor W q =>
        intro Os vv hh
        obtain ⟨h0, ⟨q1, q2, q3⟩ | ⟨τ', cs', l, q1, q2⟩⟩ := hh
        ·refine ⟨h0, .inl ?_⟩
         by_cases hW : W = V
         ·exact ⟨by rw [Env.at_set, if_pos hW]; rfl, q2, q3⟩
         ·exact ⟨by rw [Env.at_set, if_neg hW]; exact q1, q2, q3⟩
        ·refine ⟨h0, .inr ⟨τ', cs', l, q1, ?_⟩⟩
         rw [Env.at_set]; split
         ·rename_i hW; rw [hW, ← hrt] at q2; obtain ⟨_, _, _, hc, _⟩ := q2; exact hc.elim
         ·exact q2
       | ext W j =>
        intro Os vv hh
        obtain ⟨h0, rs2, vs2, q1, q2, q3⟩ := hh
        by_cases hW : W = V
        ·exact ⟨h0, _, vs2, by rw [Env.at_set, if_pos hW], q2, q3⟩
        ·exact ⟨h0, rs2, vs2, by rw [Env.at_set, if_neg hW]; exact q1, q2, q3⟩
       | bsl W q lo hi =>
        intro Os vv hh
        obtain ⟨h0, ad, len, cap, e1, cs', l, q1, q2, q3⟩ := hh
        refine ⟨h0, ad, len, cap, e1, cs', l, q1, ?_, q3⟩
        rw [Env.at_set]; split
        ·rename_i hW; rw [hW, ← hrt] at q2; obtain ⟨_, _, _, hc, _⟩ := q2; exact hc.elim
        ·exact q2
       | hrf W l =>
        intro Os vv hh
        refine ⟨hh.1, fun hl => ?_⟩
        obtain ⟨bx, n, σ, x, p, b, o, τ', cs, cs', l', q1, q2⟩ := hh.2 hl
        have hW : W ≠ V := fun hc => by rw [hc, ← hrt] at q1; simp at q1
        exact ⟨bx, n, σ, x, p, b, o, τ', cs, cs', l', by rw [Env.at_set, if_neg hW]; exact q1, q2⟩
       | cnd g s ih => intro Os vv hh; exact ⟨fun hg => ih (hh.1 hg), hh.2⟩
       | clo f c => intro Os vv hh; exact hh
       | dead => intro Os vv hh; exact hh
       | v _ _ _ => intro Os vv hh; exact hh
       | box _ _ _ => intro Os vv hh; exact hh
       | tup _ => intro Os vv hh; exact hh
       | nil => intro Os vv hh; exact hh
       | hol bx _ _ _ _ => intro Os vv hh; cases bx <;> exact hh
      exact key hu'
    ·by_cases hu : u = V
     ·subst hu; simp only [if_true]; exact ⟨(List.nodup_append.1 hnd).2.1, hmem⟩
     ·simp only [hu, if_false]; exact ⟨h.nodup u, fun b hb => hb⟩
   refine ⟨_, Oi, cs, hf, k2, k3, (List.nodup_append.1 hnd).1, fun c hc => ?_, fun c hc => ⟨V, k4.mem_iff.2 (List.mem_append_left _ hc)⟩, fun u c hc => by
    by_cases hu : u = V
    ·subst hu; simp only [if_true] at hc; exact hmem c hc
    ·simpa only [hu, if_false] using hc⟩
   have hcV : c ∈ O V := k4.mem_iff.2 (List.mem_append_left _ hc)
   obtain ⟨g1, g2, g3⟩ := h.own V c hcV
   refine ⟨g1, g2, g3, fun u => ?_⟩
   by_cases hu : u = V
   ·simp only [hu, if_true]
    exact fun hc' => (List.nodup_append.1 hnd).2.2 c hc c hc' rfl
   ·simp only [hu, if_false]
    exact h.apart V u (Ne.symm hu) c hcV
  ·simp at hev
 ·simp at hev
theorem Fr.lay (h : Fr P N w0 F0 G e T w F O) {d : Nat} {s : S} {v : Value} {On : List Nat} (hd : d < slotN N ∧ (slotLo N ≤ d ∨ v = T.getD d undef)) (hfree : ∀ t, d ∉ roots (e t)) (hs : SRep P G w F T e v s On) (hsd : d ∉ roots s) (hnd : On.Nodup)
  (hon : ∀ b ∈ On, ¬ w0.pr b ∧ b < w.heap.size ∧ ¬ F b ∧ ∀ u, u ≠ d → b ∉ O u) :
  Fr P N w0 F0 G (fun t => if t = d then s else e t) (T.setIfInBounds d v) w F (fun t => if t = d then On else O t) := by
 have hd' : d < T.size := by rw [h.size]; exact hd.1
 refine ⟨by simpa using h.size, (fun t ht => by
  rw [getD_set hd']
  split
  ·rename_i htd
   rcases hd.2 with hlo | hv
   ·omega
   ·rw [hv, ← htd]; exact h.fixed t ht
  ·exact h.fixed t ht), h.below, h.sub, h.lt, h.old, fun t => ?_, fun t => ?_, fun t => ?_, fun t t' htt => ?_, h.lays⟩
 ·rw [getD_set hd']
  by_cases ht : t = d
  ·simp only [ht, if_true]
   refine hs.slot fun V hV => ?_
   have hne : V ≠ d := fun hc => hsd (hc ▸ hV)
   exact ⟨by rw [getD_set hd', if_neg hne], fun _ => by simp [hne]⟩
  ·simp only [ht, if_false]
   refine (h.rep t).slot fun V hV => ?_
   have hne : V ≠ d := fun hc => hfree t (hc ▸ hV)
   exact ⟨by rw [getD_set hd', if_neg hne], fun _ => by simp [hne]⟩
 ·by_cases ht : t = d
  ·simp only [ht, if_true]; exact hnd
  ·simp only [ht, if_false]; exact h.nodup t
 ·by_cases ht : t = d
  ·simp only [ht, if_true]; exact fun b hb => ⟨(hon b hb).1, (hon b hb).2.1, (hon b hb).2.2.1⟩
  ·simp only [ht, if_false]; exact h.own t
 ·intro b hb hb'
  by_cases ht : t = d
  ·simp only [ht, if_true] at hb
   have ht' : t' ≠ d := fun hc => htt (ht.trans hc.symm)
   simp only [ht', if_false] at hb'
   exact (hon b hb).2.2.2 t' ht' hb'
  ·simp only [ht, if_false] at hb
   by_cases ht' : t' = d
   ·simp only [ht', if_true] at hb'
    exact (hon b hb').2.2.2 t ht hb
   ·simp only [ht', if_false] at hb'
    exact h.apart t t' htt b hb hb'
end
end Go.Tom
set_option linter.unusedVariables false
set_option linter.unusedSimpArgs false
namespace Go.Tom
open Go
section
variable {P : Program} {N : Nat} {w0 : Start} {w : World} {F0 F : Nat → Prop} {G : Nat × Bool → Bool} {e : Nat → S} {a : Act} {T : Array Value} {O : Nat → List Nat}
theorem Fr.world (h : Fr P N w0 F0 G e T w F O) {w1 : World} (hb : Kept w0 w1) (hsz : w.heap.size ≤ w1.heap.size) (hF : ∀ b, F b → w1.heap[b]? = w.heap[b]?) (hO : ∀ t, ∀ b ∈ O t, w1.heap[b]? = w.heap[b]?) : Fr P N w0 F0 G e T w1 F O := by
 have he : Ext w F w1 F := ⟨fun _ hb => hb, hF, fun b hb => by have := h.lt b hb; omega⟩
 exact ⟨h.size, h.fixed, hb, h.sub, he.lt, h.old, fun t => (h.rep t).keep he hO h.rep (hO t), h.nodup, fun t b hb => by obtain ⟨h1, h2, h3⟩ := h.own t b hb; exact ⟨h1, by omega, h3⟩, h.apart, h.lays.ext he⟩
theorem Fr.more (h : Fr P N w0 F0 G e T w F O) {R : List Nat} (hR : ∀ b ∈ R, ¬ w0.pr b ∧ b < w.heap.size ∧ ∀ u, b ∉ O u) : Fr P N w0 F0 G e T w (fun b => F b ∨ b ∈ R) O := by
 have he : Ext w F w (fun b => F b ∨ b ∈ R) := ⟨fun _ hb => .inl hb, fun _ _ => rfl, fun b hb => by
  rcases hb with hb | hb
  ·exact h.lt b hb
  ·exact (hR b hb).2.1⟩
 refine ⟨h.size, h.fixed, h.below, fun b hb => .inl (h.sub b hb), he.lt, fun b hb hlt => ?_, fun t => (h.rep t).keep he (fun _ _ _ => rfl) h.rep (fun _ _ => rfl), h.nodup, fun t b hb => ?_, h.apart, h.lays.ext he⟩
 ·rcases hb with hb | hb
  ·exact h.old b hb hlt
  ·exact absurd hlt (hR b hb).1
 ·obtain ⟨h1, h2, h3⟩ := h.own t b hb
  refine ⟨h1, h2, fun hc => ?_⟩
  rcases hc with hc | hc
  ·exact h3 hc
  ·exact (hR b hc).2.2 t hb
theorem setIfInBounds_self {T : Array Value} {d : Nat} : T.setIfInBounds d (T.getD d undef) = T := by
 apply Array.ext_getElem?
 intro i
 rw [Array.getElem?_setIfInBounds]
 split
 ·rename_i hi
  subst hi
  split
  ·rename_i hlt
   simp [Array.getD, hlt]
  ·rename_i hlt
   simp at hlt
   simp [hlt]
 ·rfl
theorem kill_free {V t : Nat} (E : Nat → S) : V ∉ roots (if rooted V (E t) then .dead else E t) := by
 split
 ·simp [roots]
 ·rename_i h; exact fun hc => h (rooted_iff.2 hc)
theorem Taken.lay {E' : Env} {n : Lv} {t : TV} {v : Value} (h : Taken P N w0 F0 G T w F O E' n t v) {d : Nat} (hd : InN N d) :
  ∃ O', Fr P N w0 F0 G ((E'.kill d).set d (.v (if t.1.flat then 0 else n) t.1 t.2)).at (T.setIfInBounds d v) w F O' := by
 obtain ⟨O', Ot, cs, hf, hv, hr, hnd, ho, _⟩ := h
 have hk := hf.kill d
 have hE : ((E'.kill d).set d (.v (if t.1.flat then 0 else n) t.1 t.2)).at = fun u => if u = d then .v (if t.1.flat then 0 else n) t.1 t.2 else (if rooted d (E'.at u) then .dead else E'.at u) := by
  funext u; rw [Env.at_set]; split
  ·rfl
  ·exact Env.at_kill E' d u
 rw [hE]
 by_cases hfl : t.1.flat = true
 ·simp only [hfl, if_true]
  exact ⟨_, hk.lay (On := []) ⟨hd.2, .inl hd.1⟩ (fun u => kill_free E'.at) ⟨cs, hv, (hr.flat hfl).2 _ _ _⟩ (by simp [roots]) List.nodup_nil (fun b hb => by cases hb)⟩
 ·simp only [hfl, Bool.false_eq_true, if_false]
  exact ⟨_, hk.lay (On := Ot) ⟨hd.2, .inl hd.1⟩ (fun u => kill_free E'.at) ⟨cs, hv, hr⟩ (by simp [roots]) hnd fun b hb => by
   obtain ⟨h1, h2, h3, h4⟩ := ho b hb
   exact ⟨h1, h2, h3, fun u _ => h4 u⟩⟩
theorem evAssign_sound {E E' : Env} (h : Fr P N w0 F0 G E.at a.tmps w F O) {tys : Tys} {d : Nat} (hd : InN N d) {ty : TypeId} {r : RS} {v : Value} (hr : RSOk P G w F E.at a O r v) (hev : evAssign tys E d ty r = some E') :
  ∃ O', Fr P N w0 F0 G E'.at (a.tmps.setIfInBounds d v) w F O' := by
 unfold evAssign at hev
 split at hev
 ·rename_i s hs
  split at hev
  ·simp at hev
  ·rename_i hrd
   simp only [Option.some.injEq] at hev
   subst hev
   obtain ⟨⟨Or, hrep, hOr⟩, hrt, hslot⟩ := hr
   have hss : r.s = s ∧ solid s = false := by
    obtain ⟨rt, rs, rr⟩ := r
    cases rs <;> simp only [copyS, reduceCtorEq, Option.some.injEq] at hs
    all_goals (subst hs; exact ⟨rfl, rfl⟩)
   rw [hss.1] at hrep
   have hO : Or = [] := by
    obtain ⟨rt, rs, rr⟩ := r
    cases rs <;> simp only [copyS, reduceCtorEq, Option.some.injEq] at hs
    all_goals (subst hs; exact hrep.1)
   subst hO
   have hk := h.kill d
   have hE : ((E.kill d).set d s).at = fun u => if u = d then s else (if rooted d (E.at u) then .dead else E.at u) := by
    funext u; rw [Env.at_set]; split
    ·rfl
    ·exact Env.at_kill E d u
   rw [hE]
   have hnr : d ∉ roots s := fun hc => hrd (rooted_iff.2 hc)
   refine ⟨_, hk.lay (On := []) ⟨hd.2, .inl hd.1⟩ (fun u => kill_free E.at) (hrep.slot fun W hW => ⟨rfl, fun hsol => ?_⟩) hnr List.nodup_nil (fun b hb => by cases hb)⟩
   simp [rooted, solid_roots hsol]
 ·split at hev
  ·rename_i n t E1 ht
   simp only [Option.some.injEq] at hev
   subst hev
   exact (take_sound h hr ht).lay hd
  ·simp at hev
theorem Rep.oneCell : ∀ {τ : Ty} {n : Lv} {x : τ.den} {cs : List Value} {Ox : List Nat}, Rep P τ n w F x cs Ox → ∀ c ∈ cs, c.oneCell' = true := by
 intro τ
 induction τ with
 | prod b1 b2 ih1 ih2 =>
  intro n x cs Ox h c hc
  obtain ⟨c1, c2, O1, O2, rfl, rfl, _, _, r1, r2⟩ := h
  rcases List.mem_append.1 hc with hc | hc
  ·exact ih1 r1 c hc
  ·exact ih2 r2 c hc
 | st b ih => intro n x cs Ox h; exact ih h
 | int k => intro n x cs Ox h c hc; rw [h.1, List.mem_singleton] at hc; subst hc; rfl
 | bool => intro n x cs Ox h c hc; rw [h.1, List.mem_singleton] at hc; subst hc; rfl
 | str => intro n x cs Ox h c hc; rw [h.1, List.mem_singleton] at hc; subst hc; rfl
 | slice e1 _ => intro n x cs Ox h c hc; obtain ⟨ad, cap, css, Os, hcs, _⟩ := h; rw [hcs, List.mem_singleton] at hc; subst hc; rfl
 | cptr e1 _ => intro n x cs Ox h c hc; obtain ⟨b, o, cs', hcs, _⟩ := h; rw [hcs, List.mem_singleton] at hc; subst hc; rfl
 | fn e1 r _ _ => intro n x cs Ox h c hc; obtain ⟨_, f, fi, ca, hcs, _⟩ := h; rw [hcs, List.mem_singleton] at hc; subst hc; rfl
theorem setRow_heap_other {b c : Nat} {row : Array Value} (h : c ≠ b) : (w.setRow b row).heap[c]? = w.heap[c]? := by
 simp only [World.setRow, Array.getElem?_modify]
 rw [if_neg (Ne.symm h)]
theorem setRow_size {b : Nat} {row : Array Value} : (w.setRow b row).heap.size = w.heap.size := by simp [World.setRow]
theorem Kept.setRow {w0 : Start} (h : Kept w0 w) {b : Nat} (hb : ¬ w0.pr b) (row : Array Value) : Kept w0 (w.setRow b row) :=
 ⟨h.os, h.tape, h.output, by rw [setRow_size]; exact h.size, fun k hk => (setRow_heap_other (fun hc => hb (by rw [← hc]; exact hk))).trans (h.block k hk)⟩
theorem run_storeAt {Ti : TypeId} {τ : Ty} (hok : TyOk P Ti τ) {b o : Nat} {cur : Array Value} {el : TypeId} (hb : w.heap[b]? = some (.cells cur el (0, 0))) {v : Value} {cs : List Value} {n : Lv} {x : τ.den} {Ox : List Nat} (hv : VS τ v cs) (hr : Rep P τ n w F x cs Ox) (hle : o + τ.sz ≤ cur.size) :
  (Instr.storeAt Ti (.pointer (some ⟨b, o, none⟩)) v).run P w = .ok () (w.setRow b (cur.toList.take o ++ cs ++ cur.toList.drop (o + cs.length)).toArray) := by
 have hc := hv.cells hr
 have hsz : v.cells.size = τ.sz := by rw [← Array.length_toList, hc, hr.length]
 have hl := hr.length
 have := run_storeCells_at P b o el cs 0 cur w hb (by omega) hr.oneCell
 simp only [Nat.add_zero] at this
 simp only [Instr.storeAt, Instr.sureAddr, Sem.run_bind, Sem.run_pure, Result.andThen_ok, storeVar, hok.size, hsz, hc, ne_eq, not_true_eq_false, if_false]
 exact this
theorem chg_setRow {b o : Nat} {cur : Array Value} {el : TypeId} (hb : w.heap[b]? = some (.cells cur el (0, 0))) {cs : List Value} (hle : o + cs.length ≤ cur.size) (c : Nat) :
  ChgAt w (w.setRow b (cur.toList.take o ++ cs ++ cur.toList.drop (o + cs.length)).toArray) c (some (b, o)) cs := by
 have hh := setRow_heap w b cur (cur.toList.take o ++ cs ++ cur.toList.drop (o + cs.length)).toArray el (0, 0) hb
 have hmin : min o cur.size = o := by omega
 by_cases hc : c = b
 ·subst hc
  refine ⟨fun n ⟨c1, el1, k1, k2⟩ => ?_, fun j hj => ?_, fun o' ho' => ?_⟩
  ·rw [hb] at k1
   simp only [Option.some.injEq, Obj.cells.injEq] at k1
   obtain ⟨rfl, rfl, _⟩ := k1
   exact ⟨_, _, hh, by simp [hmin]; omega⟩
  ·have hj' := hj o rfl
   simp only [World.cell?, hh, hb]
   simp only [Option.isSome_none, Bool.false_eq_true, if_false]
   rcases hj' with hj' | hj'
   ·simp only [List.getElem?_toArray]
    rw [List.append_assoc, List.getElem?_append_left (by simp; omega), List.getElem?_take_of_lt hj']
    simp
   ·simp only [List.getElem?_toArray]
    rw [List.getElem?_append_right (by simp; omega)]
    simp only [List.length_append, List.length_take, Array.length_toList, hmin, List.getElem?_drop]
    rw [show o + cs.length + (j - (o + cs.length)) = j from by omega]
    simp
  ·simp only [Option.some.injEq, Prod.mk.injEq, true_and] at ho'
   subst ho'
   intro j hj
   simp only [World.cell?, hh]
   simp only [Option.isSome_none, Bool.false_eq_true, if_false, List.getElem?_toArray]
   rw [List.append_assoc, List.getElem?_append_right (by simp; omega)]
   simp only [List.length_take, Array.length_toList, hmin]
   rw [show o + j - o = j from by omega, List.getElem?_append_left hj]
   simp
 ·have hs := BSame.of_heap (setRow_heap_other (w := w) (row := (cur.toList.take o ++ cs ++ cur.toList.drop (o + cs.length)).toArray) hc)
  exact ⟨hs.own, fun j _ => hs.cell j, fun o' ho' => by simp only [Option.some.injEq, Prod.mk.injEq] at ho'; exact absurd ho'.1.symm hc⟩
theorem Fr.relay {E' : Env} {V : Nat} {s : S} {On : List Nat} (h : Fr P N w0 F0 G ((E'.kill V).set V .dead).at T w F O) (hs : SRep P G w F T ((E'.kill V).set V .dead).at (T.getD V undef) s On) (hV : roots s = []) (hVN : V < slotN N) (hnd : On.Nodup)
  (hon : ∀ b ∈ On, ¬ w0.pr b ∧ b < w.heap.size ∧ ¬ F b ∧ ∀ u, u ≠ V → b ∉ O u) : Fr P N w0 F0 G ((E'.kill V).set V s).at T w F (fun t => if t = V then On else O t) := by
 have := h.lay (d := V) (s := s) (v := T.getD V undef) ⟨hVN, .inr rfl⟩ (fun t => by
  rw [Env.at_set]
  split
  ·simp [roots]
  ·rw [Env.at_kill]; exact kill_free E'.at) hs (by rw [hV]; simp) hnd hon
 rw [setIfInBounds_self] at this
 have hE : (fun t => if t = V then s else ((E'.kill V).set V .dead).at t) = ((E'.kill V).set V s).at := by
  funext u
  simp only [Env.at_set]
  split <;> rfl
 rw [hE] at this
 exact this
theorem evBox_sound {E E' : Env} (h : Fr P N w0 F0 G E.at a.tmps w F O) {tys : Tys} (ht : tys.ok P = true) {d : Nat} (hd : InN N d) {Ti : TypeId} {r : RS} {v : Value} (hr : RSOk P G w F E.at a O r v) (hev : evBox tys E d Ti r = some E') :
  ∃ w1 F1 O1, (Instr.box Ti v).run P w = .ok (.pointer (some ⟨w.heap.size, 0, none⟩)) w1 ∧ Fr P N w0 F0 G E'.at (a.tmps.setIfInBounds d (.pointer (some ⟨w.heap.size, 0, none⟩))) w1 F1 O1 := by
 unfold evBox at hev
 split at hev
 ·simp at hev
 ·rename_i τ hT
  split at hev
  ·rename_i n t E1 htk
   split at hev
   ·rename_i hc
    simp only [Option.some.injEq] at hev
    subst hev
    obtain ⟨O', Ot, cs, hf, hv, hrp, hnd, ho, _⟩ := take_sound h hr htk
    have hcs := hv.cells hrp
    have hcs' : v.cells = cs.toArray := by apply Array.toList_inj.1; simpa using hcs
    refine ⟨w.alloc (.cells cs.toArray Ti), F, (fun u => if u = d then w.heap.size :: Ot else O' u), by simp [Instr.box, newVar, newRow, hcs'], ?_⟩
    have hold : Older w (w.alloc (.cells cs.toArray Ti)) := fun b hb => RowKit.Below.heap_alloc w _ b hb
    have hlt : ∀ u, ∀ b ∈ O' u, b < w.heap.size := fun u b hb => (hf.own u b hb).2.1
    have hw := hf.world (w1 := w.alloc (.cells cs.toArray Ti)) (hf.below.alloc _) (by rw [World.size_alloc]; omega) (fun b hb => hold b (hf.lt b hb)) (fun u b hb => hold b (hlt u b hb))
    have hk := hw.kill d
    have hE : ((E1.kill d).set d (.box n t.1 t.2)).at = fun u => if u = d then .box n t.1 t.2 else (if rooted d (E1.at u) then .dead else E1.at u) := by
     funext u; rw [Env.at_set]; split
     ·rfl
     ·exact Env.at_kill E1 d u
    rw [hE]
    have hext : Ext w F (w.alloc (.cells cs.toArray Ti)) F := ⟨fun _ hb => hb, fun b hb => hold b (hf.lt b hb), hw.lt⟩
    refine hk.lay (On := w.heap.size :: Ot) ⟨hd.2, .inl hd.1⟩ (fun u => kill_free E1.at) ⟨w.heap.size, cs, Ti, Ot, rfl, alloc_heap, hrp.mono hext (fun b hb => hold.same (ho b hb).2.1), rfl⟩ (by simp [roots]) ?_ fun b hb => ?_
    ·rw [List.nodup_cons]
     exact ⟨fun hc' => by have := (ho _ hc').2.1; omega, hnd⟩
    ·rcases List.mem_cons.1 hb with rfl | hb
     ·refine ⟨h.below.new (Nat.le_refl _), by rw [World.size_alloc]; omega, fun hF => by have := hf.lt _ hF; omega, fun u _ hc' => by have := hlt u _ hc'; omega⟩
     ·obtain ⟨h1, h2, h3, h4⟩ := ho b hb
      exact ⟨h1, by rw [World.size_alloc]; omega, h3, fun u _ => h4 u⟩
   ·simp at hev
  ·simp at hev
end
end Go.Tom
