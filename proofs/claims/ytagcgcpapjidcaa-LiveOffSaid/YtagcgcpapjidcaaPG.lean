/- Arrows: heads, whom a number comes to; the program's and the document's. -/
import Derived.Test.YtagcgcpapjidcaaPR
set_option linter.unusedVariables false
set_option linter.unusedSimpArgs false
namespace Go.Tom
open Go

/-- Where the arrows of x lead. -/
def outs (n : Int) (l : List (Int × Int)) (x : Int) : List Int := l.filterMap fun e => if e.1 = x ∧ 0 ≤ e.1 ∧ e.1 < n ∧ 0 ≤ e.2 ∧ e.2 < n then some e.2 else none

theorem mem_outs {n : Int} {l : List (Int × Int)} {x y : Int} : y ∈ outs n l x ↔ RR n l x y := by
  unfold outs RR
  rw [List.mem_filterMap]
  constructor
  · rintro ⟨⟨u, v⟩, hm, h⟩
    simp only at h
    split at h
    · rename_i hc
      simp only [Option.some.injEq] at h
      obtain ⟨rfl, h1⟩ := hc
      subst h
      exact ⟨hm, h1⟩
    · simp at h
  · rintro ⟨hm, h⟩
    exact ⟨(x, y), hm, by simp [h]⟩

theorem outs_len {n : Int} {l : List (Int × Int)} {x : Int} : (outs n l x).length ≤ l.length := List.length_filterMap_le _ _

/-- The size that the program takes. -/
def clampN (n : Int) : Int := if (4096 : Int) < (if (0 : Int) > n then 0 else n) then 4096 else (if (0 : Int) > n then 0 else n)

theorem clamp_eq {n : Int} (h0 : 0 ≤ n) (h1 : n ≤ 4096) : clampN n = n := by unfold clampN; split <;> split <;> omega
theorem clamp_le {n : Int} : 0 ≤ clampN n ∧ clampN n ≤ 4096 := by unfold clampN; split <;> split <;> omega

structure HeadsOk (n : Int) (l : List (Int × Int)) (h : List (List Int)) : Prop where
  len : (h.length : Int) = n
  at_ : ∀ x : Int, 0 ≤ x → x < n → rd ([] : List Int) h x = outs n l x

theorem dag_heads_tot (n : Int) (l : List (Int × Int)) (hl : l.length ≤ 100000) : Tot (dag_heads n l) (HeadsOk (clampN n) l) := by
  obtain ⟨c0, c1⟩ := clamp_le (n := n)
  unfold dag_heads
  show Tot (ass (0 ≤ clampN n ∧ clampN n ≤ clampN n ∧ clampN n ≤ lim) (bnd (List.replicate (clampN n).toNat []) _)) _
  generalize clampN n = m at *
  simp only [cond_some, Tot.cond_iff, Tot.ass_iff, Tot.bnd_iff, Tot.some_iff, Tot.map_iff, Tot.bind_iff, Nx.inl_iff, Nx.inr_iff, decide_eq_true_eq, decide_eq_false_iff_not]
  refine ⟨⟨c0, Int.le_refl _, by unfold lim; omega⟩, ?_⟩
  refine Tot.loop (fun (x : List (List Int) × Int) => 0 ≤ x.2 ∧ x.2 ≤ (l.length : Int) ∧ HeadsOk m (l.take x.2.toNat) x.1) (fun x => ((l.length : Int) - x.2).toNat) (fun x hx => ?_) ⟨by simp, by simp, ⟨by simp; omega, fun x h0 h1 => ?_⟩⟩
  rotate_left
  · rw [rd_eq x.toNat (by omega) (by simp; omega)]
    simp [outs]
  obtain ⟨h, x⟩ := x
  simp only at hx
  obtain ⟨h0, h1, hk⟩ := hx
  obtain ⟨hlen, hat⟩ := hk
  have hw1 : IntKind.i64.wrap (x + 1) = x + 1 := w64 (by omega) (by omega)
  simp only [dag_heads_b1, dag_heads_j1, dag_heads_j2, hw1, cond_some, Tot.cond_iff, Tot.ass_iff, Tot.bnd_iff, Tot.some_iff, Tot.map_iff, Tot.bind_iff, Nx.inl_iff, Nx.inr_iff, decide_eq_true_eq, decide_eq_false_iff_not]
  refine ⟨fun hlt => ⟨⟨h0, hlt⟩, ?_⟩, fun hge => ?_⟩
  · have htk := take_rd (z := z_dag_Arrow) h0 hlt
    generalize rd z_dag_Arrow l x = e at *
    obtain ⟨u, v⟩ := e
    simp only at *
    have hout : ∀ y, outs m (l.take (x + 1).toNat) y = outs m (l.take x.toNat) y ++ (if u = y ∧ 0 ≤ u ∧ u < m ∧ 0 ≤ v ∧ v < m then [v] else []) := fun y => by
      rw [htk]
      unfold outs
      rw [List.filterMap_append]
      congr 1
      rw [List.filterMap_cons, List.filterMap_nil]
      by_cases hc : u = y ∧ 0 ≤ u ∧ u < m ∧ 0 ≤ v ∧ v < m
      · rw [if_pos hc, if_pos hc]
      · rw [if_neg hc, if_neg hc]
    have hm : ((l.length : Int) - (x + 1)).toNat < ((l.length : Int) - x).toNat := by omega
    refine ⟨fun hb => ?_, fun hb => ⟨⟨by omega, by omega, ⟨hlen, fun y y0 y1 => ?_⟩⟩, hm⟩⟩
    · simp only [Bool.and_eq_true, Bool.or_eq_true, Bool.not_eq_true', Bool.and_eq_false_iff, Bool.or_eq_false_iff, Bool.not_eq_false', beq_iff_eq, bne_iff_ne, beq_eq_false_iff_ne, bne_eq_false_iff_eq, decide_eq_true_eq, decide_eq_false_iff_not] at hb
      have hru := hat u (by omega) (by omega)
      have hle := outs_len (n := m) (l := l.take x.toNat) (x := u)
      have : (l.take x.toNat).length ≤ l.length := List.length_take_le' _ _
      refine ⟨⟨by omega, by omega⟩, by rw [hru]; simp only [List.length_singleton]; unfold limA; omega, ⟨by omega, by omega, ⟨by rw [wr_length]; exact hlen, fun y y0 y1 => ?_⟩⟩, hm⟩
      rw [rd_wr (by omega) (by omega) y0, hout]
      split
      · rename_i hyu
        subst hyu
        rw [hru, if_pos ⟨rfl, by omega, by omega, by omega, by omega⟩]
      · rename_i hyu
        rw [hat y y0 y1, if_neg (fun hc => hyu hc.1.symm), List.append_nil]
    · simp only [Bool.and_eq_true, Bool.or_eq_true, Bool.not_eq_true', Bool.and_eq_false_iff, Bool.or_eq_false_iff, Bool.not_eq_false', beq_iff_eq, bne_iff_ne, beq_eq_false_iff_ne, bne_eq_false_iff_eq, decide_eq_true_eq, decide_eq_false_iff_not] at hb
      rw [hout, if_neg (fun hc => by omega), List.append_nil]
      exact hat y y0 y1
  · have hx : x = (l.length : Int) := by omega
    subst hx
    simpa using (⟨hlen, hat⟩ : HeadsOk m (l.take (l.length : Int).toNat) h)

theorem slices_Clone_eq (xs : List Int) (h : xs.length ≤ 1000000000) : slices_Clone_int_int xs = some xs := by
  rw [← Tot.eq_iff]
  simp only [slices_Clone_int_int, cond_some, Tot.cond_iff, Tot.ass_iff, Tot.bnd_iff, Tot.some_iff, Tot.map_iff, Tot.bind_iff, Nx.inl_iff, Nx.inr_iff, decide_eq_true_eq, decide_eq_false_iff_not, List.nil_append, and_true, List.length_nil]
  unfold limA; omega

open Classical in
/-- All that a number comes to, in order. -/
noncomputable def reachL (n : Int) (l : List (Int × Int)) (a : Int) : List Int := buildL (fun k => if Relation.TransGen (RR n l) a k then [k] else []) n.toNat

theorem tc_first {n : Int} {l : List (Int × Int)} {a b : Int} (h : Relation.TransGen (RR n l) a b) : 0 ≤ a ∧ a < n ∧ 0 ≤ b ∧ b < n := by
  induction h with
  | single hr => exact ⟨hr.2.1, hr.2.2.1, hr.2.2.2.1, hr.2.2.2.2⟩
  | tail _ hr ih => exact ⟨ih.1, ih.2.1, hr.2.2.2.1, hr.2.2.2.2⟩

theorem dag_Reach_j1_eq (seen : List Bool) (hl : seen.length ≤ 100000) : dag_Reach_j1 seen = some (buildL (fun k => if rd false seen k = true then [k] else []) seen.length) := by
  rw [← Tot.eq_iff]
  unfold dag_Reach_j1
  have hone : ∀ k, ((fun k => if rd false seen k = true then [k] else []) k).length ≤ 1 := fun k => by simp only; split <;> simp
  refine Tot.loop (fun (x : List Int × Int) => 0 ≤ x.2 ∧ x.2 ≤ (seen.length : Int) ∧ x.1 = buildL (fun k => if rd false seen k = true then [k] else []) x.2.toNat) (fun x => ((seen.length : Int) - x.2).toNat) (fun x hx => ?_) ⟨by simp, by simp, rfl⟩
  obtain ⟨acc, x⟩ := x
  simp only at hx
  obtain ⟨h0, h1, rfl⟩ := hx
  have hw1 : IntKind.i64.wrap (x + 1) = x + 1 := w64 (by omega) (by omega)
  have hlen := buildL_len (f := fun k => if rd false seen k = true then [k] else []) (c := 1) hone (n := x.toNat)
  simp only [dag_Reach_b1, dag_Reach_j2, dag_Reach_j3, hw1, cond_some, Tot.cond_iff, Tot.ass_iff, Tot.bnd_iff, Tot.some_iff, Tot.map_iff, Tot.bind_iff, Nx.inl_iff, Nx.inr_iff, decide_eq_true_eq, decide_eq_false_iff_not]
  refine ⟨fun hlt => ⟨⟨h0, hlt⟩, fun hb => ⟨by simp only [List.length_singleton]; unfold limA; omega, ⟨by omega, by omega, ?_⟩, by omega⟩, fun hb => ⟨⟨by omega, by omega, ?_⟩, by omega⟩⟩, fun hge => ?_⟩
  · rw [buildL_step h0, if_pos hb]
  · rw [buildL_step h0, if_neg (by simp [hb]), List.append_nil]
  · have hx : x = (seen.length : Int) := by omega
    subst hx
    simp

theorem all_reach {n : Int} {l : List (Int × Int)} {a : Int} {seen : List Bool} (hl : (seen.length : Int) = n) (h : ∀ b : Int, 0 ≤ b → b < n → (rd false seen b = true ↔ Relation.TransGen (RR n l) a b)) :
    buildL (fun k => if rd false seen k = true then [k] else []) seen.length = reachL n l a := by
  unfold reachL
  rw [show n.toNat = seen.length from by omega]
  refine buildL_congr fun k h0 h1 => ?_
  by_cases hk : Relation.TransGen (RR n l) a k
  · rw [if_pos ((h k h0 (by omega)).2 hk), if_pos hk]
  · rw [if_neg fun hc => hk ((h k h0 (by omega)).1 hc), if_neg hk]

/-- THE PROGRAM's REACH. -/
theorem dag_Reach_eq (n : Int) (l : List (Int × Int)) (a : Int) (hl : l.length ≤ 10000) : dag_Reach n l a = some (if 0 ≤ a ∧ a < clampN n then reachL (clampN n) l a else []) := by
  rw [← Tot.eq_iff]
  unfold dag_Reach
  rw [Tot.bind_iff]
  refine (dag_heads_tot n l (by omega)).mono fun h hh => ?_
  obtain ⟨c0, c1⟩ := clamp_le (n := n)
  generalize clampN n = m at *
  obtain ⟨hlen, hat⟩ := hh
  simp only [cond_some, Tot.cond_iff, Tot.ass_iff, Tot.bnd_iff, Tot.some_iff, Tot.map_iff, Tot.bind_iff, Nx.inl_iff, Nx.inr_iff, decide_eq_true_eq, decide_eq_false_iff_not]
  refine ⟨fun hb => ?_, fun hb => ?_⟩
  · simp only [Bool.and_eq_true, Bool.or_eq_true, Bool.not_eq_true', Bool.and_eq_false_iff, Bool.or_eq_false_iff, Bool.not_eq_false', beq_iff_eq, bne_iff_ne, beq_eq_false_iff_ne, bne_eq_false_iff_eq, decide_eq_true_eq, decide_eq_false_iff_not] at hb
    rw [if_neg (by omega)]
  · simp only [Bool.and_eq_true, Bool.or_eq_true, Bool.not_eq_true', Bool.and_eq_false_iff, Bool.or_eq_false_iff, Bool.not_eq_false', beq_iff_eq, bne_iff_ne, beq_eq_false_iff_ne, bne_eq_false_iff_eq, decide_eq_true_eq, decide_eq_false_iff_not] at hb
    have ha : 0 ≤ a ∧ a < m := by omega
    rw [if_pos ha]
    refine ⟨⟨by omega, Int.le_refl _, by unfold lim; omega⟩, ⟨ha.1, by omega⟩, ?_⟩
    have hol := outs_len (n := m) (l := l) (x := a)
    rw [hat a ha.1 ha.2, slices_Clone_eq _ (by omega), Tot.some_iff]
    refine Tot.loop (fun (x : List Bool × List Int) => (x.1.length : Int) = m ∧ (∀ b ∈ x.2, Relation.TransGen (RR m l) a b) ∧ (∀ b : Int, 0 ≤ b → b < m → rd false x.1 b = true → Relation.TransGen (RR m l) a b) ∧
        (∀ b, RR m l a b → b ∈ x.2 ∨ rd false x.1 b = true) ∧ (∀ b c : Int, 0 ≤ b → b < m → rd false x.1 b = true → RR m l b c → c ∈ x.2 ∨ rd false x.1 c = true) ∧ x.2.length + x.1.count false * (l.length + 1) ≤ l.length + m.toNat * (l.length + 1))
      (fun x => x.1.count false * (l.length + 1) + x.2.length) (fun x hx => ?_) ⟨by simp; omega, fun b hb => .single (mem_outs.1 hb), fun b h0 h1 hbb => ?_, fun b hb => .inl (mem_outs.2 hb), fun b c h0 h1 hbb => ?_, ?_⟩
    rotate_left
    · exfalso; rw [rd_eq b.toNat (by omega) (by simp; omega)] at hbb; simp at hbb
    · exfalso; rw [rd_eq b.toNat (by omega) (by simp; omega)] at hbb; simp at hbb
    · simp only [List.count_replicate_self]
      have : (h.length : Int).toNat = m.toNat := by omega
      rw [this]; omega
    obtain ⟨seen, st⟩ := x
    simp only at hx
    obtain ⟨k1, k2, k3, k4, k5, k6⟩ := hx
    have hmN : m.toNat * (l.length + 1) ≤ 4096 * 10001 := Nat.mul_le_mul (by omega) (by omega)
    have hstl : st.length ≤ 10000 + 4096 * 10001 := by omega
    have hw1 : IntKind.i64.wrap ((st.length : Int) - 1) = (st.length : Int) - 1 := w64 (by omega) (by omega)
    simp only [dag_Reach_b2, hw1, cond_some, Tot.cond_iff, Tot.ass_iff, Tot.bnd_iff, Tot.some_iff, Tot.map_iff, Tot.bind_iff, Nx.inl_iff, Nx.inr_iff, decide_eq_true_eq, decide_eq_false_iff_not]
    refine ⟨fun hpos => ?_, fun hz => ?_⟩
    · have hsplit : st = st.dropLast ++ [rd 0 st ((st.length : Int) - 1)] := by
        have hne : st ≠ [] := fun hc => by rw [hc] at hpos; simp at hpos
        rw [rd_eq (st.length - 1) (by omega) (by omega), ← List.getLast_eq_getElem hne]
        exact (List.dropLast_concat_getLast hne).symm
      have hsl : sl st 0 ((st.length : Int) - 1) = st.dropLast := by
        unfold sl
        rw [List.dropLast_eq_take]
        simp only [Int.toNat_zero, List.drop_zero]
        congr 1
        omega
      rw [hsl]
      have htop : Relation.TransGen (RR m l) a (rd 0 st ((st.length : Int) - 1)) := k2 _ (rd_mem (by omega) (by omega))
      have hdl : st.dropLast.length = st.length - 1 := List.length_dropLast
      generalize rd 0 st ((st.length : Int) - 1) = t at *
      obtain ⟨_, _, t0, t1⟩ := tc_first htop
      have hmemd : ∀ b, b ∈ st.dropLast → b ∈ st := fun b hb => List.dropLast_subset _ hb
      have hmem : ∀ b, b ∈ st → b ∈ st.dropLast ∨ b = t := fun b hb => by
        rw [hsplit] at hb
        rcases List.mem_append.1 hb with hb | hb
        · exact .inl hb
        · exact .inr (List.mem_singleton.1 hb)
      refine ⟨by omega, by omega, ⟨t0, by omega⟩, fun hs => ?_, fun hs => ?_⟩
      · simp only [Bool.not_eq_true'] at hs
        rw [hat t t0 t1]
        have hcw := count_wr t0 (by omega) hs
        have hot := outs_len (n := m) (l := l) (x := t)
        have hmul : (wr seen t true).count false * (l.length + 1) + (l.length + 1) = seen.count false * (l.length + 1) := by rw [← hcw, Nat.add_mul, Nat.one_mul]
        refine ⟨⟨t0, by omega⟩, ⟨t0, by omega⟩, by unfold limA; omega, ⟨by rw [wr_length]; exact k1, fun b hb => ?_, fun b b0 b1 hbb => ?_, fun b hb => ?_, fun b c b0 b1 hbb hbc => ?_, ?_⟩, ?_⟩
        · rcases List.mem_append.1 hb with hb | hb
          · exact k2 b (hmemd b hb)
          · exact .tail htop (mem_outs.1 hb)
        · rw [rd_wr t0 (by omega) b0] at hbb
          split at hbb
          · rename_i hbt; rw [hbt]; exact htop
          · exact k3 b b0 b1 hbb
        · obtain ⟨_, _, _, b0, b1⟩ := id hb
          rw [rd_wr t0 (by omega) b0]
          rcases k4 b hb with hb' | hb'
          · rcases hmem b hb' with hb' | hb'
            · exact .inl (List.mem_append_left _ hb')
            · right; rw [if_pos hb']
          · right; split
            · rfl
            · exact hb'
        · obtain ⟨_, _, _, c0, c1⟩ := id hbc
          rw [rd_wr t0 (by omega) b0] at hbb
          rw [rd_wr t0 (by omega) c0]
          split at hbb
          · rename_i hbt
            rw [hbt] at hbc
            exact .inl (List.mem_append_right _ (mem_outs.2 hbc))
          · rcases k5 b c b0 b1 hbb hbc with hc | hc
            · rcases hmem c hc with hc | hc
              · exact .inl (List.mem_append_left _ hc)
              · right; rw [if_pos hc]
            · right; split
              · rfl
              · exact hc
        · simp only [List.length_append]; omega
        · simp only [List.length_append]; omega
      · simp only [Bool.not_eq_false'] at hs
        refine ⟨⟨k1, fun b hb => k2 b (hmemd b hb), k3, fun b hb => ?_, fun b c b0 b1 hbb hbc => ?_, by omega⟩, by omega⟩
        · rcases k4 b hb with hb' | hb'
          · rcases hmem b hb' with hb' | hb'
            · exact .inl hb'
            · right; rw [hb']; exact hs
          · exact .inr hb'
        · rcases k5 b c b0 b1 hbb hbc with hc | hc
          · rcases hmem c hc with hc | hc
            · exact .inl hc
            · right; rw [hc]; exact hs
          · exact .inr hc
    · have hst : st = [] := List.eq_nil_of_length_eq_zero (by omega)
      subst hst
      rw [dag_Reach_j1_eq seen (by omega), Tot.some_iff]
      refine all_reach k1 fun b b0 b1 => ⟨k3 b b0 b1, fun ht => ?_⟩
      induction ht with
      | single hr => rcases k4 _ hr with hb | hb
                     · cases hb
                     · exact hb
      | tail hab hr ih =>
        have hb := tc_first hab
        rcases k5 _ _ hb.2.2.1 hb.2.2.2 (ih hb.2.2.1 hb.2.2.2) hr with hc | hc
        · cases hc
        · exact hc
end Go.Tom
