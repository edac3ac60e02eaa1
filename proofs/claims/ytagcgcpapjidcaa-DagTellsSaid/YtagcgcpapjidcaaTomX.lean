/- append is sound. -/
import Derived.Test.YtagcgcpapjidcaaTomW
set_option linter.unusedVariables false
set_option linter.unusedSimpArgs false
namespace Go.Tom
open Go

theorem flatten_len {α : Type} {sz : Nat} : ∀ {css : List (List α)}, (∀ i (h : i < css.length), css[i].length = sz) → css.flatten.length = css.length * sz
  | [], _ => by simp
  | c :: css, h => by
    have h0 := h 0 (by simp)
    simp only [List.getElem_cons_zero] at h0
    rw [List.flatten_cons, List.length_append, h0, flatten_len fun i hi => h (i + 1) (Nat.succ_lt_succ hi)]
    simp [Nat.add_mul, Nat.add_comm]

theorem at_flatten {w : World} {b : Nat} {sz : Nat} : ∀ {css : List (List Value)} {o : Nat}, (∀ i (h : i < css.length), css[i].length = sz) → (∀ i (h : i < css.length), At w b (o + i * sz) css[i]) → At w b o css.flatten
  | [], o, _, _ => fun j hj => absurd hj (by simp)
  | c :: css, o, h, hat => by
    rw [List.flatten_cons, At.append]
    have h0 := h 0 (by simp)
    simp only [List.getElem_cons_zero] at h0
    refine ⟨?_, at_flatten (fun i hi => h (i + 1) (Nat.succ_lt_succ hi)) fun i hi => ?_⟩
    · have := hat 0 (Nat.succ_pos _)
      rw [Nat.zero_mul, Nat.add_zero] at this
      exact this
    have := hat (i + 1) (by simpa using hi)
    simp only [List.getElem_cons_succ] at this
    rw [h0]
    rwa [Nat.add_mul, Nat.one_mul, Nat.add_comm (i * sz), ← Nat.add_assoc] at this

section
variable {P : Program} {N : Nat} {w0 w : World} {F0 F : Nat → Prop} {G : Nat × Bool → Bool} {e : Nat → S} {a : Act} {T : Array Value} {O : Nat → List Nat}

theorem run_first {sz n len cap : Nat} {xb : Option Addr} {news : List Value} (hl : news.length = n * sz) (hz : n = 0 → news = []) (hn : xb = none → n = 0) (hc : ∀ b o, xb = some ⟨b, o, none⟩ → At w b o news) (hx : n ≠ 0 → ∃ b o, xb = some ⟨b, o, none⟩) :
    (Builtin.firstCells sz n (.slice xb len cap)).run P w = .ok news.toArray w := by
  cases xb with
  | none => have := hn rfl; rw [hz this]; exact run_firstCells_none w sz n len cap
  | some ad =>
    refine run_firstCells_some (P := P) w sz n ad len cap news hl fun j v hj => ?_
    by_cases h0 : n = 0
    · rw [hz h0] at hj; simp at hj
    · obtain ⟨b, o, hbo⟩ := hx h0
      obtain rfl := Option.some.inj hbo
      have hlt : j < news.length := by
        rcases Nat.lt_or_ge j news.length with h | h
        · exact h
        · rw [List.getElem?_eq_none h] at hj; simp at hj
      rw [add_at]
      rw [List.getElem?_eq_getElem hlt] at hj
      rw [hc b o rfl j hlt, ← hj]

/-- Cells of a row, where it has any. -/
structure RowAt (w : World) (sz : Nat) (xb : Option Addr) (n : Nat) (news : List Value) : Prop where
  len : news.length = n * sz
  addr : n ≠ 0 → ∃ b o, xb = some ⟨b, o, none⟩
  cells : ∀ b o, xb = some ⟨b, o, none⟩ → At w b o news

theorem RowAt.first {sz n len cap : Nat} {xb : Option Addr} {news : List Value} (h : RowAt w sz xb n news) : (Builtin.firstCells sz n (.slice xb len cap)).run P w = .ok news.toArray w :=
  run_first h.len (fun hn => List.eq_nil_of_length_eq_zero (by rw [h.len, hn, Nat.zero_mul])) (fun hx => by
    rcases Nat.eq_zero_or_pos n with hn | hn
    · exact hn
    · obtain ⟨b, o, hb⟩ := h.addr (by omega); rw [hx] at hb; simp at hb) h.cells h.addr

theorem RowAt.drew {sz n : Nat} {xb : Option Addr} {news : List Value} (h : RowAt w sz xb n news) : RowAt w.drew sz xb n news := ⟨h.len, h.addr, fun b o hb j hj => h.cells b o hb j hj⟩

theorem run_append_new {Ti T2 ty E : TypeId} {e1 : Ty} (hok : P.underlying Ti = some (.slice E)) (hE : TyOk P E e1) (hd : e1.data = true) {E2 : TypeId} (hok2 : P.underlying T2 = some (.slice E2)) {base xb : Option Addr} {sLen sCap n xc : Nat} {olds news : List Value} (hx : RowAt w e1.sz base sLen olds) (hy : RowAt w e1.sz xb n news)
    (hlim : sLen + n ≤ 2147483648) (hg : sCap < sLen + n) : ∃ cap rest, (Builtin.append_ #[Ti, T2] ty #[.slice base sLen sCap, .slice xb n xc]).run P w = .ok (.slice (some ⟨w.heap.size, 0, none⟩) (sLen + n) cap) (w.drew.alloc (.cells (olds ++ news ++ rest).toArray E)) ∧ sLen + n ≤ cap ∧ rest.length = (cap - (sLen + n)) * e1.sz := by
  obtain ⟨inf, hi, hsz, hby, hzz⟩ := hE.info
  obtain ⟨z, hz1, hz2⟩ := hzz hd
  have hzc : z.cells.toList = zeroCells e1 := hz2.cells (Rep.zero (P := P) (n := 0) (w := w) (F := fun _ => False) hd)
  have hzl : (zeroCells e1).length = e1.sz := (Rep.zero (P := P) (n := 0) (w := w) (F := fun _ => False) hd).length
  have hzs : z.cells.size = e1.sz := by rw [← Array.length_toList, hzc, hzl]
  have h1 : ¬ (sLen + n ≤ sCap) := by omega
  have h63 : ¬ (9223372036854775807 < ((sLen : Int) + (n : Int))) := by omega
  have hfit := growslice_fits (bytes := inf.bytes) hg (Nat.le_trans (Nat.mul_le_mul hlim hby) (by decide))
  have h48 : ¬ (281474976710656 < Builtin.nextslicecap (sLen + n) sCap * inf.bytes) := by omega
  have hf := hy.drew.first (P := P) (len := n) (cap := xc)
  have hfo := hx.drew.first (P := P) (len := sLen) (cap := sCap)
  rw [← hsz] at hf hfo
  refine ⟨grownCap w (sLen + n) sCap E, (Builtin.zeroCells z.cells (grownCap w (sLen + n) sCap E - (sLen + n))).toList, ?_, grownCap_ge w _ _ _, by rw [Array.length_toList, size_zeroCells, hzs]⟩
  simp [Builtin.append_, run_underlying hok, run_underlying hok2, sizeOf, typeInfo, zeroValue, hi, hz1, Builtin.lenOf, h1, h63, h48, Question.forced, hf, hfo, newRow, grownCap]
  congr 2
  apply Array.ext'
  simp [List.append_assoc]

theorem run_append_in {Ti T2 ty E : TypeId} {e1 : Ty} (hok : P.underlying Ti = some (.slice E)) (hE : TyOk P E e1) {E2 : TypeId} (hok2 : P.underlying T2 = some (.slice E2)) {xb : Option Addr} {b o sLen sCap n xc : Nat} {news : List Value} (hy : RowAt w e1.sz xb n news)
    (hg : sLen + n ≤ sCap) {cur : Array Value} {el : TypeId} (hb : w.heap[b]? = some (.cells cur el (0, 0))) (hcur : o + sCap * e1.sz ≤ cur.size) (h1 : ∀ v ∈ news, v.oneCell' = true) :
    (Builtin.append_ #[Ti, T2] ty #[.slice (some ⟨b, o, none⟩) sLen sCap, .slice xb n xc]).run P w = .ok (.slice (some ⟨b, o, none⟩) (sLen + n) sCap) (w.setRow b (cur.toList.take (o + sLen * e1.sz) ++ news ++ cur.toList.drop (o + sLen * e1.sz + news.length)).toArray) := by
  obtain ⟨inf, hi, hsz, hby, hzz⟩ := hE.info
  have hf := hy.first (P := P) (len := n) (cap := xc)
  have hle : o + sLen * e1.sz + news.length ≤ cur.size := by
    rw [hy.len]
    have : (sLen + n) * e1.sz ≤ sCap * e1.sz := Nat.mul_le_mul_right _ hg
    rw [Nat.add_mul] at this
    omega
  have hst := run_storeCells_at P b (o + sLen * e1.sz) el news 0 cur w hb (by omega) h1
  simp only [Nat.add_zero] at hst
  simp [Builtin.append_, run_underlying hok, run_underlying hok2, sizeOf, typeInfo, hi, Builtin.lenOf, hg, hsz, hf, add_at, hst]

theorem run_append_none {Ti T2 ty E : TypeId} {e1 : Ty} (hok : P.underlying Ti = some (.slice E)) (hE : TyOk P E e1) {E2 : TypeId} (hok2 : P.underlying T2 = some (.slice E2)) {base xb : Option Addr} {xc : Nat} (hy : RowAt w e1.sz xb 0 []) :
    (Builtin.append_ #[Ti, T2] ty #[.slice base 0 0, .slice xb 0 xc]).run P w = .ok (.slice base 0 0) w := by
  obtain ⟨inf, hi, hsz, hby, hzz⟩ := hE.info
  have hf := hy.first (P := P) (len := 0) (cap := xc)
  rw [← hsz] at hf
  cases base <;> simp [Builtin.append_, run_underlying hok, run_underlying hok2, sizeOf, typeInfo, hi, Builtin.lenOf, hf, storeCells]

/-- What is put behind a row. -/
structure Tail (P : Program) (w : World) (F : Nat → Prop) (e1 : Ty) (m : Nat) (ys : List e1.den) (xb : Option Addr) (css : List (List Value)) (Os : List (List Nat)) : Prop where
  clen : css.length = ys.length
  olen : Os.length = ys.length
  rep : ∀ i (h : i < ys.length) (h1 : i < css.length) (h2 : i < Os.length), Rep P e1 m w F ys[i] css[i] Os[i] ∧ css[i].length = e1.sz
  addr : ys ≠ [] → ∃ b o, xb = some ⟨b, o, none⟩ ∧ ∀ i (h1 : i < css.length), At w b (o + i * e1.sz) css[i]

theorem Tail.row {e1 : Ty} {m : Nat} {ys : List e1.den} {xb : Option Addr} {css : List (List Value)} {Os : List (List Nat)} (h : Tail P w F e1 m ys xb css Os) : RowAt w e1.sz xb ys.length css.flatten := by
  have hl : ∀ i (h1 : i < css.length), css[i].length = e1.sz := fun i h1 => (h.rep i (by rw [← h.clen]; exact h1) h1 (by rw [h.olen, ← h.clen]; exact h1)).2
  refine ⟨by rw [flatten_len hl, h.clen], fun hn => ?_, fun b o hb => ?_⟩
  · obtain ⟨b, o, hb, _⟩ := h.addr fun hc => hn (by rw [hc]; rfl)
    exact ⟨b, o, hb⟩
  · by_cases hn : ys = []
    · have : css = [] := List.eq_nil_of_length_eq_zero (by rw [h.clen, hn]; rfl)
      subst this
      exact fun j hj => absurd hj (by simp)
    · obtain ⟨b', o', hb', hat⟩ := h.addr hn
      rw [hb] at hb'
      simp only [Option.some.injEq, Addr.mk.injEq, and_true] at hb'
      obtain ⟨rfl, rfl⟩ := hb'
      exact at_flatten hl hat

theorem Tail.mono {e1 : Ty} {m : Nat} {ys : List e1.den} {xb : Option Addr} {css : List (List Value)} {Os : List (List Nat)} (h : Tail P w F e1 m ys xb css Os) {F' : Nat → Prop} (he : Ext w F w F') : Tail P w F' e1 m ys xb css Os :=
  ⟨h.clen, h.olen, fun i a b c => ⟨(h.rep i a b c).1.mono he fun _ _ => BSame.of_heap rfl, (h.rep i a b c).2⟩, h.addr⟩

theorem append_core (hf : Fr P N w0 F0 G e T w F O) {Ti T2 ty E : TypeId} {e1 : Ty} (hok : P.underlying Ti = some (.slice E)) (hE : TyOk P E e1) (hd : e1.data = true) {E2 : TypeId} (hok2 : P.underlying T2 = some (.slice E2)) {m : Nat} {xs ys : List e1.den} {ax xb : Option Addr} {capx xc : Nat} {Ox : List Nat}
    (hx : Rep P (.slice e1) (m + 1) w F xs [.slice ax xs.length capx] Ox) (hndx : Ox.Nodup) (hfx : Free w0 w F O Ox) {css : List (List Value)} {Os : List (List Nat)} (hy : Tail P w F e1 m ys xb css Os) (hndy : Os.flatten.Nodup) (hfy : Free w0 w F O Os.flatten)
    (hdis : ∀ c ∈ Ox, c ∉ Os.flatten) (hlim : xs.length + ys.length ≤ 2147483648) :
    ∃ ar capr w1 On, (Builtin.append_ #[Ti, T2] ty #[.slice ax xs.length capx, .slice xb ys.length xc]).run P w = .ok (.slice ar (xs.length + ys.length) capr) w1 ∧ Fr P N w0 F0 G e T w1 F O ∧
      Rep P (.slice e1) (m + 1) w1 F (xs ++ ys) [.slice ar (xs.length + ys.length) capr] On ∧ On.Nodup ∧ Free w0 w1 F O On := by
  obtain ⟨ad, cap, cssx, Osx, hcs, hcap, hcl, hol, hr, hs⟩ := hx
  simp only [List.cons.injEq, Value.slice.injEq, and_true, true_and] at hcs
  obtain ⟨rfl, rfl⟩ := hcs
  have hlx : ∀ i (h1 : i < cssx.length), cssx[i].length = e1.sz := fun i h1 => (hr i (by omega) h1 (by omega)).2
  have hly : ∀ i (h1 : i < css.length), css[i].length = e1.sz := fun i h1 => (hy.rep i (by rw [← hy.clen]; exact h1) h1 (by rw [hy.olen, ← hy.clen]; exact h1)).2
  have hrow := hy.row
  have hone : ∀ v ∈ css.flatten, v.oneCell' = true := by
    intro v hv
    obtain ⟨c, hc, hv⟩ := List.mem_flatten.1 hv
    obtain ⟨i, hi, rfl⟩ := List.getElem_of_mem hc
    exact (hy.rep i (by rw [← hy.clen]; exact hi) hi (by rw [hy.olen, ← hy.clen]; exact hi)).1.oneCell v hv
  have hyc := hy.clen
  have hyo := hy.olen
  have hOsx : ∀ i (h : i < Osx.length), ∀ c ∈ Osx[i], c ∈ Osx.flatten := fun i h c hc => List.mem_flatten.2 ⟨_, List.getElem_mem h, hc⟩
  have hOsy : ∀ i (h : i < Os.length), ∀ c ∈ Os[i], c ∈ Os.flatten := fun i h c hc => List.mem_flatten.2 ⟨_, List.getElem_mem h, hc⟩
  -- the elements, in a world where their blocks are as they were
  have elems : ∀ w1, Ext w F w1 F → (∀ c ∈ Osx.flatten, BSame w w1 c) → (∀ c ∈ Os.flatten, BSame w w1 c) → ∀ i (h : i < (xs ++ ys).length) (h1 : i < (cssx ++ css).length) (h2 : i < (Osx ++ Os).length),
      Rep P e1 (m + 1 - 1) w1 F (xs ++ ys)[i] (cssx ++ css)[i] (Osx ++ Os)[i] ∧ (cssx ++ css)[i].length = e1.sz := by
    intro w1 he hbx hby i h h1 h2
    by_cases hi : i < xs.length
    · rw [List.getElem_append_left hi, List.getElem_append_left (by omega), List.getElem_append_left (by omega)]
      obtain ⟨k1, k2⟩ := hr i hi (by omega) (by omega)
      exact ⟨k1.mono he fun c hc => hbx c (hOsx _ _ c hc), k2⟩
    · rw [List.getElem_append_right (by omega), List.getElem_append_right (by omega), List.getElem_append_right (by omega)]
      simp only [List.length_append] at h
      have e1' : i - cssx.length = i - xs.length := by omega
      have e2' : i - Osx.length = i - xs.length := by omega
      simp only [e1', e2']
      obtain ⟨k1, k2⟩ := hy.rep (i - xs.length) (by omega) (by omega) (by omega)
      exact ⟨k1.mono he fun c hc => hby c (hOsy _ _ c hc), k2⟩
  have hlxy : ∀ i (h1 : i < (cssx ++ css).length), (cssx ++ css)[i].length = e1.sz := by
    intro i h1
    by_cases hi : i < cssx.length
    · rw [List.getElem_append_left hi]; exact hlx i hi
    · rw [List.getElem_append_right (by omega)]; exact hly _ _
  have hflat : (Osx ++ Os).flatten = Osx.flatten ++ Os.flatten := List.flatten_append
  have hcflat : (cssx ++ css).flatten = cssx.flatten ++ css.flatten := List.flatten_append
  have hlen : (xs ++ ys).length = xs.length + ys.length := List.length_append
  -- what is grown
  have grow : ∀ (hg : capx < xs.length + ys.length) (hxr : RowAt w e1.sz ax xs.length cssx.flatten) (hsub : ∀ c ∈ Osx.flatten, c ∈ Ox) (hndo : Osx.flatten.Nodup), ∃ ar capr w1 On, (Builtin.append_ #[Ti, T2] ty #[.slice ax xs.length capx, .slice xb ys.length xc]).run P w = .ok (.slice ar (xs.length + ys.length) capr) w1 ∧ Fr P N w0 F0 G e T w1 F O ∧
      Rep P (.slice e1) (m + 1) w1 F (xs ++ ys) [.slice ar (xs.length + ys.length) capr] On ∧ On.Nodup ∧ Free w0 w1 F O On := by
    intro hg hxr hsub hndo
    obtain ⟨cp, rest, hrun, hcp, hrest⟩ := run_append_new (ty := ty) (xc := xc) hok hE hd hok2 hxr hrow hlim hg
    have hold : Older w (w.drew.alloc (.cells (cssx.flatten ++ css.flatten ++ rest).toArray E)) := fun b hb => RowKit.Below.heap_alloc w.drew _ b hb
    have hsz1 : (w.drew.alloc (.cells (cssx.flatten ++ css.flatten ++ rest).toArray E)).heap.size = w.heap.size + 1 := by rw [World.size_alloc]; rfl
    have hb0 : RowKit.Below w0.heap.size w0 w.drew := ⟨hf.below.os, hf.below.tape, hf.below.output, hf.below.size, hf.below.block⟩
    have hw := hf.world (w1 := w.drew.alloc (.cells (cssx.flatten ++ css.flatten ++ rest).toArray E)) (hb0.alloc hb0.size _) (by rw [hsz1]; omega) (fun b hb => hold b (hf.lt b hb)) (fun u b hb => hold b (hf.own u b hb).2.1)
    have hext : Ext w F (w.drew.alloc (.cells (cssx.flatten ++ css.flatten ++ rest).toArray E)) F := ⟨fun _ hb => hb, fun b hb => hold b (hf.lt b hb), hw.lt⟩
    have hnew : (w.drew.alloc (.cells (cssx.flatten ++ css.flatten ++ rest).toArray E)).heap[w.heap.size]? = some (.cells (cssx.flatten ++ css.flatten ++ rest).toArray E (0, 0)) := alloc_heap (w := w.drew)
    have hat := at_heap hnew
    rw [At.append] at hat
    have hat1 := hat.1
    have hats := flatten_at hlxy (by rw [hcflat]; exact hat1)
    refine ⟨_, cp, _, w.heap.size :: (Osx ++ Os).flatten, hrun, hw, ⟨some ⟨w.heap.size, 0, none⟩, cp, cssx ++ css, Osx ++ Os, by rw [hlen], by rw [hlen]; exact hcp, by simp [hcl, hyc], by simp [hol, hyo],
      elems _ hext (fun c hc => hold.same (hfx c (hsub c hc)).2.1) (fun c hc => hold.same (hfy c hc).2.1), .inr (.inr ⟨by omega, w.heap.size, 0, rfl, hats, ⟨_, E, hnew, ?_⟩, rfl⟩)⟩, ?_, ?_⟩
    · simp only [List.size_toArray, List.length_append, hrest, hrow.len, hxr.len]
      rw [← Nat.add_mul, ← Nat.add_mul, Nat.zero_add]
      exact Nat.mul_le_mul_right _ (by omega)
    · rw [List.nodup_cons, hflat]
      refine ⟨fun hc => ?_, List.nodup_append.2 ⟨hndo, hndy, fun c hc c' hc' hcc => hdis c (hsub c hc) (hcc ▸ hc')⟩⟩
      rcases List.mem_append.1 hc with hc | hc
      · have := (hfx _ (hsub _ hc)).2.1; omega
      · have := (hfy _ hc).2.1; omega
    · intro c hc
      rcases List.mem_cons.1 hc with rfl | hc
      · refine ⟨hf.below.size, by rw [hsz1]; omega, fun hF => by have := hf.lt _ hF; omega, fun u hu => by have := (hf.own u _ hu).2.1; omega⟩
      · rw [hflat] at hc
        rcases List.mem_append.1 hc with hc | hc
        · obtain ⟨h1, h2, h3, h4⟩ := hfx c (hsub c hc)
          exact ⟨h1, by rw [hsz1]; omega, h3, h4⟩
        · obtain ⟨h1, h2, h3, h4⟩ := hfy c hc
          exact ⟨h1, by rw [hsz1]; omega, h3, h4⟩
  rcases hs with ⟨hn0, _⟩ | ⟨_, hc0, rfl⟩ | ⟨_, b, o, rfl, hat, hown, rfl⟩
  · omega
  · -- no room at all
    subst hc0
    have hxe : xs = [] := List.eq_nil_of_length_eq_zero (by omega)
    subst hxe
    have hce : cssx = [] := List.eq_nil_of_length_eq_zero (by simpa using hcl)
    have hoe : Osx = [] := List.eq_nil_of_length_eq_zero (by simpa using hol)
    subst hce; subst hoe
    by_cases hye : ys = []
    · subst hye
      have hcse : css = [] := List.eq_nil_of_length_eq_zero (by simpa using hyc)
      subst hcse
      have hrun := run_append_none (ty := ty) (base := ax) (xc := xc) hok hE hok2 hrow
      exact ⟨ax, 0, w, [], hrun, hf, ⟨ax, 0, [], [], rfl, Nat.le_refl _, rfl, rfl, fun i hi => absurd hi (by simp), .inr (.inl ⟨by omega, rfl, rfl⟩)⟩, List.nodup_nil, fun c hc => by cases hc⟩
    · have hpos : 0 < ys.length := List.length_pos_iff.2 hye
      exact grow (by simpa using hpos) ⟨by simp, fun h => absurd rfl h, fun b o _ j hj => absurd hj (by simp)⟩ (fun c hc => by simp at hc) (by simp)
  · have hndx' := List.nodup_cons.1 hndx
    by_cases hg : xs.length + ys.length ≤ capx
    · -- in place
      obtain ⟨cur, el, hb, hcur⟩ := hown
      have hrun := run_append_in (ty := ty) (xc := xc) (sLen := xs.length) hok hE hok2 hrow hg hb hcur hone
      have hle : o + xs.length * e1.sz + css.flatten.length ≤ cur.size := by
        rw [hrow.len]
        have : (xs.length + ys.length) * e1.sz ≤ capx * e1.sz := Nat.mul_le_mul_right _ hg
        rw [Nat.add_mul] at this
        omega
      have hch := chg_setRow hb hle
      obtain ⟨w1, hw1⟩ : ∃ w1, w1 = w.setRow b (cur.toList.take (o + xs.length * e1.sz) ++ css.flatten ++ cur.toList.drop (o + xs.length * e1.sz + css.flatten.length)).toArray := ⟨_, rfl⟩
      rw [← hw1] at hrun
      have hsame : ∀ c, c ≠ b → w1.heap[c]? = w.heap[c]? := fun c hc => by rw [hw1]; exact setRow_heap_other hc
      have hsz1 : w1.heap.size = w.heap.size := by rw [hw1]; exact setRow_size
      obtain ⟨g1, g2, g3, g4⟩ := hfx b (List.mem_cons_self ..)
      have hw := hf.world (w1 := w1) (by rw [hw1]; exact Below.setRow hf.below g1 _) (by omega) (fun c hc => hsame c fun hcb => g3 (hcb ▸ hc)) (fun u c hc => hsame c fun hcb => g4 u (hcb ▸ hc))
      have hext : Ext w F w1 F := ⟨fun _ hc => hc, fun c hc => hsame c fun hcb => g3 (hcb ▸ hc), hw.lt⟩
      have hby : b ∉ Os.flatten := hdis b (List.mem_cons_self ..)
      refine ⟨_, capx, w1, b :: (Osx ++ Os).flatten, hrun, hw, ⟨some ⟨b, o, none⟩, capx, cssx ++ css, Osx ++ Os, by rw [hlen], by rw [hlen]; exact hg, by simp [hcl, hyc], by simp [hol, hyo],
        elems _ hext (fun c hc => BSame.of_heap (hsame c fun hcb => hndx'.1 (hcb ▸ hc))) (fun c hc => BSame.of_heap (hsame c fun hcb => hby (hcb ▸ hc))), .inr (.inr ⟨by omega, b, o, rfl, fun i h1 => ?_, ?_, rfl⟩)⟩, ?_, ?_⟩
      · by_cases hi : i < cssx.length
        · rw [List.getElem_append_left hi]
          intro j hj
          have hl := hlx i hi
          rw [hw1, (hch b).out _ fun o' ho' => ?_]
          · exact hat i hi j hj
          · simp only [Option.some.injEq, Prod.mk.injEq, true_and] at ho'
            subst ho'
            left
            have : (i + 1) * e1.sz ≤ xs.length * e1.sz := Nat.mul_le_mul_right _ (by omega)
            rw [Nat.add_mul] at this
            omega
        · rw [List.getElem_append_right (by omega)]
          have hin : At w1 b (o + xs.length * e1.sz) css.flatten := by rw [hw1]; exact (hch b).inn _ rfl
          have := flatten_at hly hin (i - cssx.length) (by simp at h1; omega)
          have he : o + xs.length * e1.sz + (i - cssx.length) * e1.sz = o + i * e1.sz := by
            rw [Nat.add_assoc, ← Nat.add_mul]; congr 2; omega
          rwa [he] at this
      · rw [hw1]; exact (hch b).own _ ⟨cur, el, hb, hcur⟩
      · rw [List.nodup_cons, hflat]
        refine ⟨fun hc => ?_, List.nodup_append.2 ⟨hndx'.2, hndy, fun c hc c' hc' hcc => hdis c (List.mem_cons_of_mem _ hc) (hcc ▸ hc')⟩⟩
        rcases List.mem_append.1 hc with hc | hc
        · exact hndx'.1 hc
        · exact hby hc
      · intro c hc
        rw [hsz1]
        rcases List.mem_cons.1 hc with rfl | hc
        · exact ⟨g1, g2, g3, g4⟩
        · rw [hflat] at hc
          rcases List.mem_append.1 hc with hc | hc
          · exact hfx c (List.mem_cons_of_mem _ hc)
          · exact hfy c hc
    · refine grow (by omega) ⟨by rw [flatten_len hlx, hcl], fun _ => ⟨b, o, rfl⟩, fun b' o' hb' => ?_⟩ (fun c hc => List.mem_cons_of_mem _ hc) hndx'.2
      simp only [Option.some.injEq, Addr.mk.injEq, and_true] at hb'
      obtain ⟨rfl, rfl⟩ := hb'
      exact at_flatten hlx hat
end
end Go.Tom
