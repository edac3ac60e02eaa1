/- Each operation does what evalQ says: fields, elements, lengths, copies. -/
import Derived.Test.YtagcgcpapjidcaaTomI
set_option linter.unusedVariables false
set_option linter.unusedSimpArgs false
namespace Go.Tom
open Go

section
variable {P : Program} {N : Nat} {w0 w : World} {F0 F : Nat → Prop} {G : Nat × Bool → Bool} {e : Nat → S} {a : Act} {O : Nat → List Nat}

theorem run_fieldAt {T : TypeId} {b1 : Ty} (h : TyOk P T (.st b1)) {f : Nat} {a1 : Ty} (hf : fldTy b1 f = some a1) (b o : Nat) : (Instr.fieldAt T (.pointer (some ⟨b, o, none⟩)) f).run P w = .ok (.pointer (some ⟨b, o + fldOff b1 f, none⟩)) w := by
  obtain ⟨fs, hu, hfs, _⟩ := h.st
  obtain ⟨d, h1, h2, h3, h4⟩ := okB_fld hfs hf
  have h1' : fs[f]? = some d := by simpa using h1
  have hs := h3.size (w := w)
  have hz : a1.sz ≠ 0 := by have := a1.sz_pos; omega
  have h2' : d.offset = fldOff b1 f := by simpa using h2
  simp [Instr.fieldAt, run_underlying hu, h1', Instr.sureAddr, fieldPlace, hs, hz, add_at, h2']

theorem evFieldAddr_sound (h : Fr P N w0 F0 G e a.tmps w F O) {tys : Tys} (ht : tys.ok P = true) {T : TypeId} {f : Nat} {x : RS} {vx : Value} (hx : RSOk P G w F e a O x vx)
    {sup sup' : List Sup} {s : S} {obs : List Prop} (hev : evFieldAddr tys T f x sup = some (s, obs, sup')) : Yld P w F G e a (Instr.fieldAt T vx f) s := by
  unfold evFieldAddr at hev
  split at hev
  · rename_i V n b1 xv rr
    obtain ⟨⟨Or, hrep, _⟩, hrt, hslot⟩ := hx
    obtain ⟨hV, hvx⟩ := hslot V rfl
    obtain ⟨b, cs, el, O', rfl, hb, hr, rfl⟩ := hrep
    split at hev
    · rename_i hc
      obtain ⟨hT, hf⟩ := hc
      simp only [Option.some.injEq, Prod.mk.injEq] at hev
      obtain ⟨rfl, rfl, rfl⟩ := hev
      obtain ⟨a1, ha1⟩ := Option.isSome_iff_exists.1 hf
      refine Yld.same h (run_fieldAt (tyAt_ok ht hT) ha1 b 0) ⟨rfl, b, 0 + fldOff b1 f, a1, _, rfl, .st b1, cs, some (b, 0), ?_, a1, ha1, rfl, rfl, rfl⟩
      rw [hV, ← hvx]
      exact ⟨rfl, b, el, rfl, hb, rfl⟩
    · simp at hev
  · rename_i to V p r
    obtain ⟨⟨Or, hrep, _⟩, hrt, hslot⟩ := hx
    simp only [roots, List.map_cons, List.map_nil, List.cons.injEq, and_true] at hrt
    subst hrt
    obtain ⟨_, b, o, τ', cs', rfl, hp⟩ := hrep
    split at hev
    · rename_i n b1 xb hg
      obtain ⟨O'', hr, hat, rfl⟩ := h.place hp hg
      split at hev
      · rename_i hc
        obtain ⟨hT, hf⟩ := hc
        simp only [Option.some.injEq, Prod.mk.injEq] at hev
        obtain ⟨rfl, rfl, rfl⟩ := hev
        obtain ⟨a1, ha1⟩ := Option.isSome_iff_exists.1 hf
        obtain ⟨τ, cs, l, hroot, hpl⟩ := hp
        exact Yld.same h (run_fieldAt (tyAt_ok ht hT) ha1 b o) ⟨rfl, b, o + fldOff b1 f, a1, _, rfl, τ, cs, l, hroot, Place.snoc p hpl ⟨a1, ha1, rfl, rfl, rfl⟩⟩
      · simp at hev
    · simp at hev
  · rename_i to n b1 xv rr
    obtain ⟨⟨Or, hrep, _⟩, hrt, hslot⟩ := hx
    obtain ⟨cs, hv, b, o, cs', rfl, hF, hat, hl, hr, rfl⟩ := hrep
    have hv' : [Value.pointer (some ⟨b, o, none⟩)] = [vx] := hv
    simp only [List.cons.injEq, and_true] at hv'
    subst hv'
    split at hev
    · rename_i hT
      split at hev
      · rename_i t hfg
        simp only [Option.some.injEq, Prod.mk.injEq] at hev
        obtain ⟨rfl, rfl, rfl⟩ := hev
        have ha1 := fldGet_ty hfg
        obtain ⟨pre, csf, post, Of, Or', rfl, hpl, hcl, hof, hrf, _⟩ := fieldFocus (a := b1) hr hfg
        have hz := hrf.zero_nil
        subst hz
        rw [At.append, At.append, hpl] at hat
        exact Yld.same h (run_fieldAt (tyAt_ok ht hT) ha1 b o) ⟨[_], rfl, b, o + fldOff b1 f, csf, rfl, hF, hat.2.1, hcl, hrf, rfl⟩
      · simp at hev
    · simp at hev
  · simp at hev

theorem run_field {T : TypeId} {b1 : Ty} (h : TyOk P T (.st b1)) {f : Nat} {t : TV} {x : b1.den} {n : Nat} {O' : List Nat} {cs : List Value} (hr : Rep P b1 n w F x cs O') (hf : fldGet b1 x f = some t) :
    ∃ v Of, (Instr.field T (.agg cs.toArray) f).run P w = .ok v w ∧ VS t.1 v ((cs.drop (fldOff b1 f)).take t.1.sz) ∧ Rep P t.1 n w F t.2 ((cs.drop (fldOff b1 f)).take t.1.sz) Of := by
  obtain ⟨fs, hu, hfs, _⟩ := h.st
  have ha1 := fldGet_ty hf
  obtain ⟨d, h1, h2, h3, h4⟩ := okB_fld hfs ha1
  have h1' : fs[f]? = some d := by simpa using h1
  have h2' : d.offset = fldOff b1 f := by simpa using h2
  obtain ⟨pre, csf, post, Of, Or', rfl, hpl, hcl, hof, hrf, _⟩ := fieldFocus (a := b1) hr hf
  have hmid : ((pre ++ (csf ++ post)).drop (fldOff b1 f)).take t.1.sz = csf := by
    rw [← hpl, List.drop_left, ← hcl, List.take_left]
  obtain ⟨v, k1, k2⟩ := run_part (w := w) h3 (xs := (pre ++ (csf ++ post)).toArray) (pre := pre) (c := csf) (post := post) (by simp) hcl (off := d.offset) (by rw [h2']; exact hpl)
  rw [hmid]
  exact ⟨v, Of, by simp [Instr.field, run_underlying hu, h1', asAgg, k1], k2, hrf⟩

theorem evField_sound (h : Fr P N w0 F0 G e a.tmps w F O) {tys : Tys} (ht : tys.ok P = true) {T : TypeId} {f : Nat} {x : RS} {vx : Value} (hx : RSOk P G w F e a O x vx)
    {sup sup' : List Sup} {s : S} {obs : List Prop} (hev : evField tys T f x sup = some (s, obs, sup')) : Yld P w F G e a (Instr.field T vx f) s := by
  unfold evField at hev
  split at hev
  · rename_i V n b1 xv rr
    obtain ⟨⟨Or, hrep, _⟩, hrt, hslot⟩ := hx
    obtain ⟨hV, hvx⟩ := hslot V rfl
    obtain ⟨cs, hv, hr⟩ := hrep
    have hv' : vx = .agg cs.toArray := hv
    split at hev
    · rename_i hT
      split at hev
      · rename_i t hfg
        obtain ⟨v, Of, k1, k2, k3⟩ := run_field (w := w) (tyAt_ok ht hT) (show Rep P b1 n w F xv cs Or from hr) hfg
        rw [hv'] at hvx ⊢
        refine Yld.same h k1 (atPlace_sound (l' := none) hev k2 k3 ⟨.st b1, cs, none, ?_, t.1, fldGet_ty hfg, rfl, rfl, rfl⟩)
        rw [hV, ← hvx]
        exact ⟨rfl, rfl, rfl⟩
      · simp at hev
    · simp at hev
  · rename_i b1 xv rr
    obtain ⟨⟨Or, hrep, _⟩, hrt, hslot⟩ := hx
    obtain ⟨cs, hv, hr⟩ := hrep
    have hv' : vx = .agg cs.toArray := hv
    split at hev
    · rename_i hT
      split at hev
      · rename_i t hfg
        simp only [Option.some.injEq, Prod.mk.injEq] at hev
        obtain ⟨rfl, rfl, rfl⟩ := hev
        obtain ⟨v, Of, k1, k2, k3⟩ := run_field (w := w) (tyAt_ok ht hT) (show Rep P b1 0 w F xv cs Or from hr) hfg
        have hz := k3.zero_nil
        subst hz
        rw [hv']
        exact Yld.same h k1 ⟨_, k2, k3⟩
      · simp at hev
    · simp at hev
  · rename_i to V p r
    obtain ⟨⟨Or, hrep, _⟩, hrt, hslot⟩ := hx
    simp only [roots, List.map_cons, List.map_nil, List.cons.injEq, and_true] at hrt
    subst hrt
    obtain ⟨_, ⟨hrs, _, _⟩ | ⟨τ', cs', l, hv, hp⟩⟩ := hrep
    · cases heV : e V <;> rw [heV] at hev hrs <;> simp [rootGet, passive] at hev hrs
    · split at hev
      · rename_i n b1 xb hg
        obtain ⟨O'', hr, hat, rfl⟩ := h.place hp hg
        split at hev
        · rename_i hT
          split at hev
          · rename_i t hfg
            have hv' : vx = .agg cs'.toArray := hv
            obtain ⟨v, Of, k1, k2, k3⟩ := run_field (w := w) (tyAt_ok ht hT) (show Rep P b1 n w F xb cs' O'' from hr) hfg
            obtain ⟨τ, cs, l0, hroot, hpl⟩ := hp
            subst hv'
            exact Yld.same h k1 (atPlace_sound hev k2 k3 ⟨τ, cs, l0, hroot, Place.snoc p hpl ⟨t.1, fldGet_ty hfg, rfl, rfl, rfl⟩⟩)
          · simp at hev
        · simp at hev
      · simp at hev
  · simp at hev

theorem run_indexAt {T : TypeId} {e1 : Ty} (h : TyOk P T (.slice e1)) {b o len cap : Nat} {k : IntKind} {i : Int} (h0 : 0 ≤ i) (h1 : i < (len : Int)) :
    (Instr.indexAt T (.slice (some ⟨b, o, none⟩) len cap) (.int k i)).run P w = .ok (.pointer (some ⟨b, o + i.toNat * e1.sz, none⟩)) w := by
  obtain ⟨E, hu, hE⟩ := h.slice
  simp [Instr.indexAt, asIntOf, run_underlying hu, h0, h1, hE.size, add_at]

theorem evIndexAddr_sound (h : Fr P N w0 F0 G e a.tmps w F O) {tys : Tys} (ht : tys.ok P = true) {T : TypeId} {x i : RS} {vx vi : Value} (hx : RSOk P G w F e a O x vx) (hi : RSOk P G w F e a O i vi)
    {sup sup' : List Sup} {s : S} {obs : List Prop} (hev : evIndexAddr tys T x i sup = some (s, obs, sup')) (hobs : ∀ p ∈ obs, p) : Yld P w F G e a (Instr.indexAt T vx vi) s := by
  unfold evIndexAddr at hev
  split at hev
  · rename_i k i hk
    have hvi := rdInt_ok h hi hk
    subst hvi
    split at hev
    · rename_i V n e1 xs rr
      obtain ⟨⟨Or, hrep, hOr⟩, hrt, hslot⟩ := hx
      obtain ⟨hV, hvx⟩ := hslot V rfl
      split at hev
      · rename_i hT
        have hok := tyAt_ok ht hT
        obtain ⟨cs, hv, ad, cap, css, Os, rfl, hcap, hcl, hol, hr, hs⟩ := hrep
        have hv' : [Value.slice ad xs.length cap] = [vx] := hv
        simp only [List.cons.injEq, and_true] at hv'
        subst hv'
        split at hev
        · rename_i hn
          simp only [Option.some.injEq, Prod.mk.injEq] at hev
          obtain ⟨rfl, rfl, rfl⟩ := hev
          obtain ⟨h0, h1⟩ := hobs _ (List.mem_singleton.2 rfl)
          have hi1 : i.toNat < xs.length := by omega
          obtain rfl := Nat.eq_of_beq_eq_true hn
          rcases hs with ⟨_, _, hs | ⟨b, o, rfl, hF, hat⟩⟩ | ⟨hn0, _⟩ | ⟨hn0, _⟩
          · subst hs; simp at hi1
          · obtain ⟨hri, hli⟩ := hr i.toNat hi1 (by omega) (by omega)
            have hz := hri.zero_nil
            rw [hz] at hri
            have hrd : rd e1.zero xs i = xs[i.toNat] := by simp [rd, List.getD, List.getElem?_eq_getElem hi1]
            exact Yld.same h (run_indexAt hok h0 h1) ⟨[_], rfl, b, _, css[i.toNat], rfl, hF, hat _ (by omega), hli, by rw [hrd]; exact hri, rfl⟩
          · omega
          · omega
        · rename_i hn
          simp only [Option.some.injEq, Prod.mk.injEq] at hev
          obtain ⟨rfl, rfl, rfl⟩ := hev
          obtain ⟨h0, h1⟩ := hobs _ (List.mem_singleton.2 rfl)
          have hi1 : i.toNat < xs.length := by omega
          have hn' : n ≠ 0 := fun hc => hn (by rw [hc]; rfl)
          rcases hs with ⟨hn0, _⟩ | ⟨_, hc0, _⟩ | ⟨hn0, b, o, rfl, hat, hown, rfl⟩
          · omega
          · omega
          · obtain ⟨hri, hli⟩ := hr i.toNat hi1 (by omega) (by omega)
            refine Yld.same h (run_indexAt hok h0 h1) ⟨rfl, b, _, e1, css[i.toNat], rfl, .slice e1, [.slice (some ⟨b, o, none⟩) xs.length cap], none, ?_, b, o, xs.length, cap, css[i.toNat], rfl, h0, hi1, hli, hat _ (by omega), rfl, rfl, rfl⟩
            rw [hV, ← hvx]
            exact ⟨rfl, rfl, rfl⟩
      · simp at hev
    · rename_i e1 xs rr
      obtain ⟨⟨Or, hrep, hOr⟩, hrt, hslot⟩ := hx
      split at hev
      · rename_i hT
        have hok := tyAt_ok ht hT
        obtain ⟨cs, hv, ad, cap, css, Os, rfl, hcap, hcl, hol, hr, hs⟩ := hrep
        have hv' : [Value.slice ad xs.length cap] = [vx] := hv
        simp only [List.cons.injEq, and_true] at hv'
        subst hv'
        simp only [Option.some.injEq, Prod.mk.injEq] at hev
        obtain ⟨rfl, rfl, rfl⟩ := hev
        obtain ⟨h0, h1⟩ := hobs _ (List.mem_singleton.2 rfl)
        have hi1 : i.toNat < xs.length := by omega
        rcases hs with ⟨_, _, hs | ⟨b, o, rfl, hF, hat⟩⟩ | ⟨hn0, _⟩ | ⟨hn0, _⟩
        · subst hs; simp at hi1
        · obtain ⟨hri, hli⟩ := hr i.toNat hi1 (by omega) (by omega)
          have hz := hri.zero_nil
          rw [hz] at hri
          have hrd : rd e1.zero xs i = xs[i.toNat] := by simp [rd, List.getD, List.getElem?_eq_getElem hi1]
          exact Yld.same h (run_indexAt hok h0 h1) ⟨[_], rfl, b, _, css[i.toNat], rfl, hF, hat _ (by omega), hli, by rw [hrd]; exact hri, rfl⟩
        · omega
        · omega
      · simp at hev
    · rename_i to V n e1 x0 j
      obtain ⟨⟨Or, hrep, _⟩, hrt, hslot⟩ := hx
      simp only [roots, List.map_cons, List.map_nil, List.cons.injEq, and_true] at hrt
      split at hev
      · rename_i hT
        have hok := tyAt_ok ht hT
        simp only [Option.some.injEq, Prod.mk.injEq] at hev
        obtain ⟨rfl, rfl, rfl⟩ := hev
        obtain rfl := hobs _ (List.mem_singleton.2 rfl)
        obtain ⟨_, ⟨_, _, hvx⟩ | ⟨τ', cs', l, hv, τ1, cs, l0, hroot, hp⟩⟩ := hrep
        · have hVr := h.rep V
          rw [← hrt] at hVr
          obtain ⟨cs, hvs, hlen, hpos, t, b, o, cs', hg, hpl, _⟩ := hVr
          obtain ⟨b1, o1, len, cap, cs1, rfl, h0, h1, h2, h3, rfl, rfl, hbo⟩ := id hpl
          have hv' : [Value.slice (some ⟨b1, o1, none⟩) len cap] = [a.tmps.getD V undef] := hvs
          simp only [List.cons.injEq, and_true] at hv'
          simp only [Option.some.injEq, Prod.mk.injEq] at hbo
          obtain ⟨rfl, rfl⟩ := hbo
          rw [hvx, ← hv']
          refine Yld.same h (run_indexAt hok h0 (by omega)) ⟨rfl, fun _ => ⟨false, n, _, x0, _, _, _, _, _, _, none, hrt.symm, rfl, ⟨hvs, rfl⟩, hpl⟩⟩
        · rw [← hrt] at hroot
          exact hroot.elim
      · simp at hev
    · rename_i to V p r _
      obtain ⟨⟨Or, hrep, _⟩, hrt, hslot⟩ := hx
      simp only [roots, List.map_cons, List.map_nil, List.cons.injEq, and_true] at hrt
      subst hrt
      obtain ⟨_, ⟨hrs, _, _⟩ | ⟨τ', cs', l, hv, hp⟩⟩ := hrep
      · cases heV : e V <;> rw [heV] at hev hrs <;> simp [rootGet, passive] at hev hrs
      · split at hev
        · rename_i n e1 xs hg
          obtain ⟨O'', hr, hat, rfl⟩ := h.place hp hg
          split at hev
          · rename_i hT
            simp only [Option.some.injEq, Prod.mk.injEq] at hev
            obtain ⟨rfl, rfl, rfl⟩ := hev
            obtain ⟨h0, h1⟩ := hobs _ (List.mem_singleton.2 rfl)
            have hi1 : i.toNat < xs.length := by omega
            have hr' : Rep P (.slice e1) (n + 1) w F xs cs' O'' := hr
            clear hr
            obtain ⟨ad, cap, css, Os, rfl, hcap, hcl, hol, hr, hs⟩ := hr'
            have hv' : [Value.slice ad xs.length cap] = [vx] := hv
            simp only [List.cons.injEq, and_true] at hv'
            subst hv'
            rcases hs with ⟨hn0, _⟩ | ⟨_, hc0, _⟩ | ⟨hn0, b, o, rfl, hat, hown, rfl⟩
            · omega
            · omega
            · obtain ⟨hri, hli⟩ := hr i.toNat hi1 (by omega) (by omega)
              obtain ⟨τ, cs, l0, hroot, hpl⟩ := hp
              exact Yld.same h (run_indexAt (tyAt_ok ht hT) h0 h1) ⟨rfl, b, _, e1, css[i.toNat], rfl, τ, cs, l0, hroot, Place.snoc p hpl ⟨b, o, xs.length, cap, css[i.toNat], rfl, h0, hi1, hli, hat _ (by omega), rfl, rfl, rfl⟩⟩
          · simp at hev
        · simp at hev
    · simp at hev
  · simp at hev

theorem evIndex_sound (h : Fr P N w0 F0 G e a.tmps w F O) {tys : Tys} (ht : tys.ok P = true) {T : TypeId} {x i : RS} {vx vi : Value} (hx : RSOk P G w F e a O x vx) (hi : RSOk P G w F e a O i vi)
    {sup sup' : List Sup} {s : S} {obs : List Prop} (hev : evIndex tys T x i sup = some (s, obs, sup')) (hobs : ∀ p ∈ obs, p) : Yld P w F G e a (Instr.index T vx vi) s := by
  unfold evIndex at hev
  split at hev
  · rename_i k i st hk hs
    have hvi := rdInt_ok h hi hk
    have hvx := rdk_str h hx hs
    subst hvi; subst hvx
    split at hev
    · rename_i hT
      simp only [qv, Option.some.injEq, Prod.mk.injEq] at hev
      obtain ⟨rfl, rfl, rfl⟩ := hev
      obtain ⟨h0, h1⟩ := hobs _ (List.mem_singleton.2 rfl)
      have hlt : i.toNat < st.size := by omega
      have hlt' : i.toNat < st.data.size := hlt
      refine Yld.same h (v := .int .u8 (bt st i)) ?_ ⟨[_], rfl, rfl, rfl⟩
      have : st[i.toNat]? = some (st[i.toNat]) := by simp [hlt]
      simp [Instr.index, asIntOf, run_underlying (tyAt_ok ht hT).str, h0, this, bt, Array.getD, hlt', h1]
      rfl
    · simp at hev
  · simp at hev

theorem evConvert_sound (h : Fr P N w0 F0 G e a.tmps w F O) {tys : Tys} (ht : tys.ok P = true) {src dst : TypeId} {x : RS} {vx : Value} (hx : RSOk P G w F e a O x vx)
    {sup sup' : List Sup} {s : S} {obs : List Prop} (hev : evConvert tys src dst x sup = some (s, obs, sup')) : Yld P w F G e a (convert src dst vx) s := by
  unfold evConvert at hev
  split at hev
  · rename_i k n k0 k' hk h1 h2
    have hvx := rdk_int h hx hk
    subst hvx
    simp only [qv, Option.some.injEq, Prod.mk.injEq] at hev
    obtain ⟨rfl, rfl, rfl⟩ := hev
    exact Yld.same h (v := .int k' (k'.wrap n)) (by simp [convert, run_underlying (tyAt_ok ht h1).int, run_underlying (tyAt_ok ht h2).int, Conv.intToInt]) ⟨[_], rfl, rfl, rfl⟩
  · rename_i st hk h1 h2
    have hvx := rdk_str h hx hk
    subst hvx
    simp only [qv, Option.some.injEq, Prod.mk.injEq] at hev
    obtain ⟨rfl, rfl, rfl⟩ := hev
    exact Yld.same h (v := .string st) (by simp [convert, run_underlying (tyAt_ok ht h1).str, run_underlying (tyAt_ok ht h2).str]) ⟨[_], rfl, rfl, rfl⟩
  · simp at hev

end
end Go.Tom
