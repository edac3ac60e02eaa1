/- Arrows: the depths; what chapter 13 tells. -/
import Derived.Test.YtagcgcpapjidcaaPI
set_option linter.unusedVariables false
set_option linter.unusedSimpArgs false
namespace Go.Tom
open Go

/-- Depths that may be: each arrow leads deeper. -/
def Deep (n : Int) (l : List (Int × Int)) (D : Int → Int) : Prop := (∀ x, 0 ≤ D x) ∧ ∀ x y, RR n l x y → D x + 1 ≤ D y

/-- No deeper than any that may be. -/
def Low (n : Int) (l : List (Int × Int)) (d : List Int) : Prop := (d.length : Int) = n ∧ ∀ k : Int, 0 ≤ k → k < n → 0 ≤ rd 0 d k ∧ ∀ D, Deep n l D → rd 0 d k ≤ D k
def DeepL (n : Int) (l : List (Int × Int)) (d : List Int) : Prop := ∀ x y, RR n l x y → rd 0 d x + 1 ≤ rd 0 d y

theorem low_unique {n : Int} {l : List (Int × Int)} {d e : List Int} (h1 : Low n l d) (h2 : DeepL n l d) (k1 : Low n l e) (k2 : DeepL n l e) : d = e := by
  have key : ∀ {d e : List Int}, Low n l d → Low n l e → DeepL n l e → ∀ k : Int, 0 ≤ k → k < n → rd 0 d k ≤ rd 0 e k := fun {d e} h1 k1 k2 k k0 kn => by
    have := (h1.2 k k0 kn).2 (fun x => if 0 ≤ x ∧ x < n then rd 0 e x else 0) ⟨fun x => by
      simp only
      split
      · rename_i hx; exact (k1.2 x hx.1 hx.2).1
      · omega, fun x y hr => by
      simp only
      rw [if_pos ⟨hr.2.1, hr.2.2.1⟩, if_pos ⟨hr.2.2.2.1, hr.2.2.2.2⟩]
      exact k2 x y hr⟩
    rwa [if_pos ⟨k0, kn⟩] at this
  have hd := h1.1
  have he := k1.1
  refine List.ext_getElem (by omega) fun i hi hi2 => ?_
  have a := key h1 k1 k2 i (by omega) (by omega)
  have b := key k1 h1 h2 i (by omega) (by omega)
  rw [rd_eq i rfl hi, rd_eq i rfl hi2] at a
  rw [rd_eq i rfl hi, rd_eq i rfl hi2] at b
  omega

theorem low_zero {n : Int} {l : List (Int × Int)} (hn : 0 ≤ n) : Low n l (List.replicate n.toNat 0) := by
  refine ⟨by simp; omega, fun k k0 kn => ?_⟩
  rw [rd_eq k.toNat (by omega) (by simp; omega)]
  simp only [List.getElem_replicate]
  exact ⟨Int.le_refl _, fun D hD => hD.1 k⟩

theorem low_set {n : Int} {l : List (Int × Int)} {d : List Int} (h : Low n l d) {x y : Int} (hr : RR n l x y) {v : Int} (hv : 0 ≤ v) (hv2 : v ≤ rd 0 d x + 1 ∨ v ≤ rd 0 d y) : Low n l (wr d y v) := by
  obtain ⟨_, x0, xn, y0, yn⟩ := id hr
  obtain ⟨h1, h2⟩ := h
  refine ⟨by rw [wr_length]; exact h1, fun k k0 kn => ?_⟩
  rw [rd_wr y0 (by omega) k0]
  split
  · rename_i hky
    subst hky
    refine ⟨hv, fun D hD => ?_⟩
    have a := (h2 x x0 xn).2 D hD
    have b := (h2 k k0 kn).2 D hD
    have c := hD.2 x k hr
    rcases hv2 with hv2 | hv2 <;> omega
  · exact h2 k k0 kn

/-- There are depths that may be, none above n. -/
theorem deep_bound {n : Int} {l : List (Int × Int)} (hn : 0 ≤ n) (hnr : ¬ RingP n l) : ∃ D, Deep n l D ∧ ∀ x, D x ≤ n := by
  obtain ⟨rank, hb, hd⟩ := rank_of hnr
  refine ⟨fun x => n - rank x, ⟨fun x => ?_, fun x y hr => ?_⟩, fun x => ?_⟩
  · have := hb x; simp only; omega
  · have := hd x y hr; simp only; omega
  · simp only; omega

/-- How far below n they are, together. -/
def pot (n : Int) (d : List Int) : Nat := (d.map fun v => (n - v).toNat).sum

theorem pot_set {n : Int} : ∀ {d : List Int} {i : Nat} {v : Int} (hi : i < d.length), d[i] < v → v ≤ n → pot n (d.set i v) < pot n d
  | [], i, v, hi, _, _ => by simp at hi
  | a :: d, 0, v, _, h1, h2 => by
    simp only [List.getElem_cons_zero] at h1
    simp only [pot, List.set_cons_zero, List.map_cons, List.sum_cons]
    omega
  | a :: d, i + 1, v, hi, h1, h2 => by
    simp only [List.getElem_cons_succ] at h1
    have := pot_set (n := n) (d := d) (i := i) (v := v) (by simpa using hi) h1 h2
    simp only [pot, List.set_cons_succ, List.map_cons, List.sum_cons] at *
    omega

theorem pot_wr {n : Int} {d : List Int} {i v : Int} (h0 : 0 ≤ i) (h1 : i < (d.length : Int)) (h2 : rd 0 d i < v) (h3 : v ≤ n) : pot n (wr d i v) < pot n d := by
  unfold wr
  refine pot_set (by omega) ?_ h3
  rw [rd_eq i.toNat (by omega) (by omega)] at h2
  exact h2

/-- THE DOCUMENT's DEPTHS. -/
theorem r13_Depth_tot (n : Int) (l : List (Int × Int)) (n0 : 0 ≤ n) (n1 : n ≤ 100000) (hl : l.length ≤ 100000) (hnr : ¬ RingP n l) : Tot (r13_Depth n l) (fun d => Low n l d ∧ DeepL n l d) := by
  obtain ⟨B, hB, hBn⟩ := deep_bound n0 hnr
  unfold r13_Depth
  simp only [cond_some, Tot.cond_iff, Tot.ass_iff, Tot.bnd_iff, Tot.some_iff, Tot.map_iff, Tot.bind_iff, Nx.inl_iff, Nx.inr_iff, decide_eq_true_eq, decide_eq_false_iff_not]
  refine ⟨⟨n0, Int.le_refl _, by unfold lim; omega⟩, ?_⟩
  refine Tot.loop (fun (x : List Int × Bool) => Low n l x.1 ∧ (x.2 = false → DeepL n l x.1)) (fun x => 2 * pot n x.1 + (if x.2 = true then 1 else 0)) (fun x hx => ?_) ⟨low_zero n0, by simp⟩
  obtain ⟨d, ag⟩ := x
  simp only at hx
  obtain ⟨h1, h2⟩ := hx
  simp only [r13_Depth_b1, r13_Depth_j1, cond_some, Tot.cond_iff, Tot.ass_iff, Tot.bnd_iff, Tot.some_iff, Tot.map_iff, Tot.bind_iff, Nx.inl_iff, Nx.inr_iff, decide_eq_true_eq, decide_eq_false_iff_not]
  refine ⟨fun hag => ?_, fun hag => ⟨h1, h2 hag⟩⟩
  subst hag
  refine Tot.loop (fun (y : List Int × Bool × Int) => Low n l y.1 ∧ 0 ≤ y.2.2 ∧ y.2.2 ≤ (l.length : Int) ∧ pot n y.1 ≤ pot n d ∧ (y.2.1 = true → pot n y.1 < pot n d) ∧ (y.2.1 = false → ∀ u v, (u, v) ∈ l.take y.2.2.toNat → 0 ≤ u → u < n → 0 ≤ v → v < n → rd 0 y.1 u + 1 ≤ rd 0 y.1 v)) (fun y => ((l.length : Int) - y.2.2).toNat) (fun y hy => ?_)
    ⟨h1, by simp, by simp, Nat.le_refl _, by simp, fun _ u v huv => by simp at huv⟩
  obtain ⟨e, g, y⟩ := y
  simp only at hy
  obtain ⟨k1, k2, k3, k4, k5, k6⟩ := hy
  have hw1 : IntKind.i64.wrap (y + 1) = y + 1 := w64 (by omega) (by omega)
  simp only [r13_Depth_b2, r13_Depth_j2, hw1, cond_some, Tot.cond_iff, Tot.ass_iff, Tot.bnd_iff, Tot.some_iff, Tot.map_iff, Tot.bind_iff, Nx.inl_iff, Nx.inr_iff, decide_eq_true_eq, decide_eq_false_iff_not]
  refine ⟨fun hylt => ⟨⟨k2, hylt⟩, ?_⟩, fun hyge => ?_⟩
  · have htk := take_rd (z := z_r13_Arrow) k2 hylt
    have hmem := rd_mem (z := z_r13_Arrow) k2 hylt
    generalize rd z_r13_Arrow l y = a at *
    obtain ⟨u, v⟩ := a
    simp only at *
    have hm : ((l.length : Int) - (y + 1)).toNat < ((l.length : Int) - y).toNat := by omega
    have hlen := k1.1
    refine ⟨fun hb => ?_, fun hb => ?_, fun hb => ?_, fun hb => ?_⟩
    · simp only [Bool.and_eq_true, Bool.or_eq_true, Bool.not_eq_true', Bool.and_eq_false_iff, Bool.or_eq_false_iff, Bool.not_eq_false', beq_iff_eq, bne_iff_ne, beq_eq_false_iff_ne, bne_eq_false_iff_eq, decide_eq_true_eq, decide_eq_false_iff_not] at hb; omega
    · simp only [Bool.and_eq_true, Bool.or_eq_true, Bool.not_eq_true', Bool.and_eq_false_iff, Bool.or_eq_false_iff, Bool.not_eq_false', beq_iff_eq, bne_iff_ne, beq_eq_false_iff_ne, bne_eq_false_iff_eq, decide_eq_true_eq, decide_eq_false_iff_not] at hb; omega
    · simp only [Bool.and_eq_true, Bool.or_eq_true, Bool.not_eq_true', Bool.and_eq_false_iff, Bool.or_eq_false_iff, Bool.not_eq_false', beq_iff_eq, bne_iff_ne, beq_eq_false_iff_ne, bne_eq_false_iff_eq, decide_eq_true_eq, decide_eq_false_iff_not] at hb
      obtain ⟨⟨⟨⟨u0, un⟩, v0⟩, vn⟩, hle⟩ := hb
      have hu := k1.2 u (by omega) un
      have hv := k1.2 v (by omega) vn
      have hub := hu.2 B hB
      have hvb := hv.2 B hB
      have hBu := hBn u
      have hBv := hBn v
      have hr : RR n l u v := ⟨hmem, by omega, un, by omega, vn⟩
      have hBuv := hB.2 u v hr
      have hw2 : IntKind.i64.wrap (rd 0 e u + 1) = rd 0 e u + 1 := w64 (by omega) (by omega)
      rw [hw2]
      have hp := pot_wr (n := n) (d := e) (i := v) (v := rd 0 e u + 1) (by omega) (by omega) (by omega) (by omega)
      exact ⟨⟨by omega, by omega⟩, ⟨by omega, by omega⟩, ⟨low_set k1 hr (by omega) (.inl (Int.le_refl _)), by omega, by omega, by omega, fun _ => by omega, by simp⟩, hm⟩
    · refine ⟨⟨k1, by omega, by omega, k4, k5, fun hg u' v' huv a b c dd => ?_⟩, hm⟩
      rw [htk] at huv
      rcases List.mem_append.1 huv with huv | huv
      · exact k6 hg u' v' huv a b c dd
      · simp only [List.mem_singleton, Prod.mk.injEq] at huv
        obtain ⟨rfl, rfl⟩ := huv
        simp [a, b, c, dd] at hb
        omega
  · have hy : y = (l.length : Int) := by omega
    subst hy
    simp only [Int.toNat_natCast, List.take_length] at k6
    refine ⟨⟨k1, fun hg x y hr => k6 hg x y hr.1 hr.2.1 hr.2.2.1 hr.2.2.2.1 hr.2.2.2.2⟩, ?_⟩
    cases g with
    | true => have := k5 rfl; simp; omega
    | false => simp; omega

theorem OrdOk_take {n : Int} {l : List (Int × Int)} {o : List Int} (h : OrdOk n l o) {k : Nat} {x y : Int} (hy : y ∈ o.take k) (hr : RR n l x y) : x ∈ o.take k := by
  obtain ⟨j, hj, he⟩ := List.getElem_of_mem hy
  rw [List.getElem_take] at he
  rw [List.length_take] at hj
  have := h.ahead j (by omega) x (by rw [he]; exact hr)
  exact List.mem_of_mem_take (i := j) (by rwa [List.take_take, Nat.min_eq_left (by omega)])

/-- THE PROGRAM's DEPTHS, where there is an order. -/
theorem dag_Depth_tot (n : Int) (l : List (Int × Int)) (hl : l.length ≤ 10000) {o : List Int} (ho : ordL (clampN n) l (clampN n).toNat [] = some o) : Tot (dag_Depth n l) (fun r => r.2 = true ∧ Low (clampN n) l r.1 ∧ DeepL (clampN n) l r.1) := by
  simp only [dag_Depth, dag_Order_eq n l hl, ho, ordRes, cond_some, Tot.cond_iff, Tot.ass_iff, Tot.bnd_iff, Tot.some_iff, Tot.map_iff, Tot.bind_iff, Nx.inl_iff, Nx.inr_iff, decide_eq_true_eq, decide_eq_false_iff_not]
  refine ⟨fun h => by simp at h, fun _ => ?_⟩
  refine (dag_heads_tot n l (by omega)).mono fun h hh => ?_
  obtain ⟨c0, c1⟩ := clamp_le (n := n)
  generalize clampN n = m at *
  obtain ⟨hlen, hat⟩ := id hh
  obtain ⟨hok, hol⟩ := ordL_ok ho OrdOk.nil
  simp only [List.length_nil, Nat.zero_add] at hol
  have hnr := no_ring hok (by omega)
  obtain ⟨B, hB, hBn⟩ := deep_bound c0 hnr
  refine ⟨⟨by omega, Int.le_refl _, by unfold lim; omega⟩, ?_⟩
  refine Tot.loop (fun (x : List Int × Int) => 0 ≤ x.2 ∧ x.2 ≤ m ∧ Low m l x.1 ∧ ∀ u v, u ∈ o.take x.2.toNat → RR m l u v → rd 0 x.1 u + 1 ≤ rd 0 x.1 v) (fun x => (m - x.2).toNat) (fun x hx => ?_) ⟨by simp, c0, by rw [show (h.length : Int).toNat = m.toNat from by omega]; exact low_zero c0, fun u v hu => by simp at hu⟩
  obtain ⟨d, x⟩ := x
  simp only at hx
  obtain ⟨h0, h1, h2, h3⟩ := hx
  simp only [dag_Depth_b1, dag_Depth_j1, cond_some, Tot.cond_iff, Tot.ass_iff, Tot.bnd_iff, Tot.some_iff, Tot.map_iff, Tot.bind_iff, Nx.inl_iff, Nx.inr_iff, decide_eq_true_eq, decide_eq_false_iff_not]
  refine ⟨fun hlt => ?_, fun hge => ?_⟩
  · have htk := take_rd (z := (0 : Int)) h0 hlt
    have hkm : rd 0 o x = o[x.toNat]'(by omega) := rd_eq _ (by omega) (by omega)
    have hkr := hok.rng _ (rd_mem (z := (0 : Int)) h0 hlt)
    have hpre : ∀ u, RR m l u (rd 0 o x) → u ∈ o.take x.toNat := fun u hr => hok.ahead x.toNat (by omega) u (by rw [← hkm]; exact hr)
    have hnot : rd 0 o x ∉ o.take x.toNat := fun hc => by
      obtain ⟨j, hj, he⟩ := List.getElem_of_mem hc
      rw [List.getElem_take, hkm] at he
      rw [List.length_take] at hj
      exact (List.pairwise_iff_getElem.1 hok.nodup) j x.toNat (by omega) (by omega) (by omega) he
    generalize rd 0 o x = k at *
    obtain ⟨k0, k1⟩ := hkr
    have hL := hat k k0 k1
    have hLl := outs_len (n := m) (l := l) (x := k)
    have hLr : ∀ y ∈ outs m l k, RR m l k y := fun y hy => mem_outs.1 hy
    have hLm : ∀ y, RR m l k y → y ∈ outs m l k := fun y hy => mem_outs.2 hy
    rw [show (Tot (loopM (fun x_1 => dag_Depth_b2 h x k x_1.fst x_1.snd) (d, 0)) = Tot (loopM (fun (x_1 : List Int × Int) => dag_Depth_b2 h x k x_1.fst x_1.snd) (d, 0))) from rfl]
    generalize hLdef : outs m l k = L at *
    have hkk : ¬ RR m l k k := fun hc => hnot (hpre k hc)
    -- the row of k
    refine ⟨⟨h0, hlt⟩, ⟨k0, by omega⟩, ?_⟩
    refine Tot.loop (fun (y : List Int × Int) => 0 ≤ y.2 ∧ y.2 ≤ (L.length : Int) ∧ Low m l y.1 ∧ rd 0 y.1 k = rd 0 d k ∧ (∀ u v, u ∈ o.take x.toNat → RR m l u v → rd 0 y.1 u + 1 ≤ rd 0 y.1 v) ∧ ∀ v, v ∈ L.take y.2.toNat → rd 0 y.1 k + 1 ≤ rd 0 y.1 v) (fun y => ((L.length : Int) - y.2).toNat) (fun y hy => ?_) ⟨by simp, by simp, h2, rfl, h3, fun v hv => by simp at hv⟩
    obtain ⟨e, y⟩ := y
    simp only at hy
    obtain ⟨g0, g1, g2, g3, g4, g5⟩ := hy
    have hw1 : IntKind.i64.wrap (y + 1) = y + 1 := w64 (by omega) (by omega)
    have hw3 : IntKind.i64.wrap (x + 1) = x + 1 := w64 (by omega) (by omega)
    have hek := g2.2 k k0 k1
    have hekb := hek.2 B hB
    have hBk := hBn k
    have hw2 : IntKind.i64.wrap (rd 0 e k + 1) = rd 0 e k + 1 := w64 (by omega) (by omega)
    simp only [dag_Depth_b2, dag_Depth_j2, dag_Depth_j3, hL, hw1, hw2, hw3, cond_some, Tot.cond_iff, Tot.ass_iff, Tot.bnd_iff, Tot.some_iff, Tot.map_iff, Tot.bind_iff, Nx.inl_iff, Nx.inr_iff, decide_eq_true_eq, decide_eq_false_iff_not]
    have hel := g2.1
    refine ⟨fun hylt => ?_, fun hyge => ?_⟩
    · have htr := hLr _ (rd_mem (z := (0 : Int)) g0 hylt)
      have htk2 := take_rd (z := (0 : Int)) g0 hylt
      generalize rd 0 L y = to at *
      obtain ⟨_, _, _, t0, t1⟩ := id htr
      have htk : to ≠ k := fun hc => hkk (hc ▸ htr)
      have het := g2.2 to t0 t1
      have hto : to ∉ o.take x.toNat := fun hc => hnot (OrdOk_take hok hc htr)
      refine ⟨⟨g0, hylt⟩, ⟨t0, by omega⟩, ⟨k0, by omega⟩, ⟨by omega, by omega, ?_, ?_, fun u v hu hr => ?_, fun v hv => ?_⟩, by omega⟩
      · refine low_set g2 htr ?_ ?_
        · split <;> omega
        · split
          · exact .inl (Int.le_refl _)
          · exact .inr (Int.le_refl _)
      · rw [rd_wr t0 (by omega) k0, if_neg (Ne.symm htk)]
        exact g3
      · have := g4 u v hu hr
        have hut : u ≠ to := fun hc => hto (hc ▸ hu)
        rw [rd_wr t0 (by omega) hr.2.1, if_neg hut, rd_wr t0 (by omega) hr.2.2.2.1]
        split
        · rename_i hvt; rw [hvt] at this; split <;> omega
        · exact this
      · rw [rd_wr t0 (by omega) k0, if_neg (Ne.symm htk)]
        rw [htk2] at hv
        rcases List.mem_append.1 hv with hv | hv
        · have := g5 v hv
          have hvr := hLr v (List.mem_of_mem_take hv)
          rw [rd_wr t0 (by omega) hvr.2.2.2.1]
          split
          · rename_i hvt; rw [hvt] at this; split <;> omega
          · exact this
        · rw [List.mem_singleton.1 hv, rd_wr t0 (by omega) t0, if_pos rfl]
          split <;> omega
    · have hy : y = (L.length : Int) := by omega
      subst hy
      simp only [Int.toNat_natCast, List.take_length] at g5
      refine ⟨⟨by omega, by omega, g2, fun u v hu hr => ?_⟩, by omega⟩
      rw [htk] at hu
      rcases List.mem_append.1 hu with hu | hu
      · exact g4 u v hu hr
      · rw [List.mem_singleton.1 hu] at hr ⊢
        exact g5 v (hLm v hr)
  · have hx : x = (o.length : Int) := by omega
    subst hx
    simp only [Int.toNat_natCast, List.take_length] at h3
    refine ⟨trivial, h2, fun u v hr => h3 u v (full hok.nodup hok.rng (by omega) hr.2.1 hr.2.2.1) hr⟩

theorem dag_Depth_none (n : Int) (l : List (Int × Int)) (hl : l.length ≤ 10000) (ho : ordL (clampN n) l (clampN n).toNat [] = none) : dag_Depth n l = some ([], false) := by
  rw [← Tot.eq_iff]
  simp [dag_Depth, dag_Order_eq n l hl, ho, ordRes, cond_some, Tot.cond_iff, Tot.ass_iff, Tot.bnd_iff, Tot.some_iff, Tot.map_iff, Tot.bind_iff, Nx.inl_iff, Nx.inr_iff, decide_eq_true_eq, decide_eq_false_iff_not]

theorem l13_arrows_eq (l : List (Int × Int)) (hl : l.length ≤ 10000) : l13_arrows l = some l := by
  rw [← Tot.eq_iff]
  unfold l13_arrows
  refine Tot.loop (fun (x : List (Int × Int) × Int) => 0 ≤ x.2 ∧ x.2 ≤ (l.length : Int) ∧ x.1 = l.take x.2.toNat) (fun x => ((l.length : Int) - x.2).toNat) (fun x hx => ?_) ⟨by simp, by simp, by simp⟩
  obtain ⟨acc, x⟩ := x
  simp only at hx
  obtain ⟨h0, h1, rfl⟩ := hx
  have hw1 : IntKind.i64.wrap (x + 1) = x + 1 := w64 (by omega) (by omega)
  simp only [l13_arrows_b1, l13_arrows_j1, hw1, cond_some, Tot.cond_iff, Tot.ass_iff, Tot.bnd_iff, Tot.some_iff, Tot.map_iff, Tot.bind_iff, Nx.inl_iff, Nx.inr_iff, decide_eq_true_eq, decide_eq_false_iff_not]
  refine ⟨fun hlt => ⟨⟨h0, hlt⟩, ?_, ⟨by omega, by omega, (take_rd h0 hlt).symm⟩, by omega⟩, fun hge => ?_⟩
  · simp only [List.length_take, List.length_singleton]; unfold limA; omega
  · have hx : x = (l.length : Int) := by omega
    subst hx
    simp

theorem buildL_one {f : Int → List Int} (hf : ∀ k, (f k).length ≤ 1) {n : Nat} : (buildL f n).length ≤ n := by
  have := buildL_len (f := f) (c := 1) hf (n := n)
  omega

open Classical in
theorem reachL_len {n : Int} {l : List (Int × Int)} {a : Int} : (reachL n l a).length ≤ n.toNat := by
  unfold reachL
  exact buildL_one fun k => by split <;> simp

theorem mem_reachL {n : Int} {l : List (Int × Int)} {a b : Int} : b ∈ reachL n l a ↔ Relation.TransGen (RR n l) a b := by
  classical
  unfold reachL
  rw [mem_buildL]
  constructor
  · rintro ⟨k, _, _, hk⟩
    split at hk
    · rename_i h; rw [List.mem_singleton.1 hk]; exact h
    · simp at hk
  · intro h
    obtain ⟨_, _, b0, b1⟩ := tc_first h
    exact ⟨b, b0, by omega, by rw [if_pos h]; simp⟩

theorem dag_Comes_eq (n : Int) (l : List (Int × Int)) (a b : Int) (hl : l.length ≤ 10000) : dag_Comes n l a b = some (@decide (Relation.TransGen (RR (clampN n) l) a b) (Classical.propDecidable _)) := by
  classical
  have hc := clamp_le (n := n)
  have hle := reachL_len (n := clampN n) (l := l) (a := a)
  rw [← Tot.eq_iff]
  simp only [dag_Comes, dag_Reach_eq n l a hl, cond_some, Tot.cond_iff, Tot.ass_iff, Tot.bnd_iff, Tot.some_iff, Tot.map_iff, Tot.bind_iff, Nx.inl_iff, Nx.inr_iff, decide_eq_true_eq, decide_eq_false_iff_not]
  split
  · rw [slices_Contains_int_eq _ _ (by omega), Tot.some_iff, decide_eq_decide]
    exact mem_reachL
  · rename_i ha
    rw [slices_Contains_int_eq _ _ (by simp), Tot.some_iff, decide_eq_decide]
    simp only [List.not_mem_nil, false_iff]
    intro h
    have := tc_first h
    exact ha ⟨this.1, this.2.1⟩

theorem l13_alive_eq : l13_alive = some true := by
  rw [← Tot.eq_iff]
  have c3 : clampN 3 = 3 := by decide
  have c1 : clampN 1 = 1 := by decide
  have o1 : ordL 3 [(2, 0)] (3 : Int).toNat [] = some [1, 2, 0] := by decide
  have o2 : ordL 1 [(0, 0)] (1 : Int).toNat [] = none := by decide
  have t : Relation.TransGen (RR 3 [(2, 0)]) 2 0 := .single ⟨by simp, by decide, by decide, by decide, by decide⟩
  simp only [l13_alive, dag_Order_eq _ _ (show ([((2 : Int), (0 : Int))]).length ≤ 10000 by decide), dag_Comes_eq _ _ _ _ (show ([((2 : Int), (0 : Int))]).length ≤ 10000 by decide), dag_Ring_eq _ _ (show ([((2 : Int), (0 : Int))]).length ≤ 10000 by decide), dag_Ring_eq _ _ (show ([((0 : Int), (0 : Int))]).length ≤ 10000 by decide), c3, c1, o1, o2, ordRes, r11_Ints_eq _ _ (show ([1, 2, 0] : List Int).length ≤ 100000 by decide), cond_some, Tot.cond_iff, Tot.ass_iff, Tot.bnd_iff, Tot.some_iff, Tot.map_iff, Tot.bind_iff, Nx.inl_iff, Nx.inr_iff, decide_eq_true_eq, decide_eq_false_iff_not]
  simp [c3, t]

/-- WHAT CHAPTER 13 TELLS. -/
theorem DagTells_eq (n : Int) (l : List (Int × Int)) (a b : Int) : l13_DagTells n l a b = some true := by
  classical
  rw [← Tot.eq_iff]
  simp only [l13_DagTells, l13_alive_eq, cond_some, Tot.cond_iff, Tot.ass_iff, Tot.bnd_iff, Tot.some_iff, Tot.map_iff, Tot.bind_iff, Nx.inl_iff, Nx.inr_iff, decide_eq_true_eq, decide_eq_false_iff_not]
  refine ⟨fun _ => trivial, fun hg => ?_⟩
  simp only [Bool.and_eq_true, Bool.or_eq_true, Bool.not_eq_true', Bool.and_eq_false_iff, Bool.or_eq_false_iff, Bool.not_eq_false', beq_iff_eq, bne_iff_ne, beq_eq_false_iff_ne, bne_eq_false_iff_eq, decide_eq_true_eq, decide_eq_false_iff_not] at hg
  obtain ⟨⟨n0, n1⟩, l1⟩ := hg
  have hl : l.length ≤ 80 := by omega
  have hcl : clampN n = n := clamp_eq (by omega) (by omega)
  rw [l13_arrows_eq l (by omega), Tot.some_iff]
  refine (r13_Reach_tot n l a (by omega) (by omega) (by omega)).mono fun out hout => ?_
  obtain ⟨o1, o2⟩ := hout
  have hRing := (r13_Ring_tot n l (by omega) (by omega) (by omega)).dec
  have hOrd := dag_Order_eq n l (by omega)
  have hDR := dag_Ring_eq n l (by omega)
  have hRch := dag_Reach_eq n l a (by omega)
  have hCom := dag_Comes_eq n l a b (by omega)
  rw [hcl] at hOrd hDR hRch hCom
  have hri := ring_iff (n := n) (l := l) (by omega)
  have hrl := reachL_len (n := n) (l := l) (a := a)
  -- the tail, for whatever reach is
  have tail : ∀ rc : List Bool, rc.length ≤ 100 → (if 0 ≤ a ∧ a < n then reachL n l a else []) = buildL (fun k => if rd false rc k = true then [k] else []) rc.length →
      (decide (Relation.TransGen (RR n l) a b) = (decide (b ≥ 0) && decide (b < (rc.length : Int)) && rd false rc b)) → Tot (l13_DagTells_j1 n l a b l rc) (fun r => r = true) := by
    intro rc hrc hreach hcomes
    have hbl : (buildL (fun k => if rd false rc k = true then [k] else []) rc.length).length ≤ 100000 := by
      have := buildL_one (f := fun k => if rd false rc k = true then [k] else []) (fun k => by split <;> simp) (n := rc.length)
      omega
    simp only [l13_DagTells_j1, hRing, hOrd, hDR, hRch, hCom, hreach, r11_All_eq rc (by omega), r11_Ints_eq _ _ hbl, hcomes, cond_some, Tot.cond_iff, Tot.ass_iff, Tot.bnd_iff, Tot.some_iff, Tot.map_iff, Tot.bind_iff, Nx.inl_iff, Nx.inr_iff, decide_eq_true_eq, decide_eq_false_iff_not]
    cases ho : ordL n l n.toNat [] with
    | none =>
      have hr := hri.1 ho
      have hD := dag_Depth_none n l (by omega) (by rw [hcl]; exact ho)
      simp [hD, hr, ordRes, l13_alive_eq, Tot.some_iff]
    | some o =>
      have hr : ¬ RingP n l := fun hc => by rw [hri.2 hc] at ho; simp at ho
      obtain ⟨hok, hol⟩ := ordL_ok ho OrdOk.nil
      simp only [List.length_nil, Nat.zero_add] at hol
      have hRO := r13_Order_eq n l (by omega) (by omega) (by omega) ho
      obtain ⟨r, hD, hD1, hD2, hD3⟩ := dag_Depth_tot n l (by omega) (o := o) (by rw [hcl]; exact ho)
      obtain ⟨d, hR, hR1, hR2⟩ := r13_Depth_tot n l (by omega) (by omega) (by omega) hr
      rw [hcl] at hD2 hD3
      have hdd := low_unique hD2 hD3 hR1 hR2
      have hdl := hR1.1
      simp [hD, hr, ordRes, l13_alive_eq, hRO, hR, hdd, hD1, Tot.some_iff, r11_Ints_eq o o (by omega), r11_Ints_eq d d (by omega)]
  by_cases ha : 0 ≤ a ∧ a < n
  · have hb : (decide (a < 0) || decide (a ≥ n)) = false := by simp; omega
    rw [hb]
    simp only [Bool.false_eq_true, false_implies, true_implies, true_and]
    refine tail out (by omega) ?_ ?_
    · rw [if_pos ha]
      exact (all_reach o1 o2).symm
    · rw [Bool.eq_iff_iff]
      simp only [decide_eq_true_eq, Bool.and_eq_true]
      constructor
      · intro ht
        have := tc_first ht
        exact ⟨⟨this.2.2.1, by omega⟩, (o2 b this.2.2.1 this.2.2.2).2 ht⟩
      · rintro ⟨⟨b0, b1⟩, b2⟩
        exact (o2 b b0 (by omega)).1 b2
  · have hb : (decide (a < 0) || decide (a ≥ n)) = true := by simp; omega
    rw [hb]
    simp only [Bool.true_eq_false, false_implies, true_implies, and_true]
    refine tail [] (by simp) ?_ ?_
    · rw [if_neg ha]; rfl
    · have : ¬ Relation.TransGen (RR n l) a b := fun ht => by
        have := tc_first ht
        exact ha ⟨this.1, this.2.1⟩
      simp [this]
      omega
end Go.Tom
