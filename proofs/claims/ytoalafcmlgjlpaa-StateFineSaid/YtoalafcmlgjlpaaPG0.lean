/- Arrows: heads, whom a number comes to; the program's and the document's. -/
import Derived.Test.YtoalafcmlgjlpaaPR
set_option linter.unusedVariables false
set_option linter.unusedSimpArgs false
namespace Go.Tom
open Go

/-- Where the arrows of x lead. -/
def outs (n : Int) (l : List (Int × Int)) (x : Int) : List Int := l.filterMap fun e => if e.1 = x ∧ 0 ≤ e.1 ∧ e.1 < n ∧ 0 ≤ e.2 ∧ e.2 < n then some e.2 else none

theorem mem_outs {n : Int} {l : List (Int × Int)} {x y : Int} : y ∈ outs n l x ↔ RR n l x y := by
  unfold outs RR
  rw [List.mem_filterMap]
  constructor
  · rintro ⟨⟨u, v⟩, hm, h⟩
    simp only at h
    split at h
    · rename_i hc
      simp only [Option.some.injEq] at h
      obtain ⟨rfl, h1⟩ := hc
      subst h
      exact ⟨hm, h1⟩
    · simp at h
  · rintro ⟨hm, h⟩
    exact ⟨(x, y), hm, by simp [h]⟩

theorem outs_len {n : Int} {l : List (Int × Int)} {x : Int} : (outs n l x).length ≤ l.length := List.length_filterMap_le _ _

/-- The size that the program takes. -/
def clampN (n : Int) : Int := if (4096 : Int) < (if (0 : Int) > n then 0 else n) then 4096 else (if (0 : Int) > n then 0 else n)

theorem clamp_eq {n : Int} (h0 : 0 ≤ n) (h1 : n ≤ 4096) : clampN n = n := by unfold clampN; split <;> split <;> omega
theorem clamp_le {n : Int} : 0 ≤ clampN n ∧ clampN n ≤ 4096 := by unfold clampN; split <;> split <;> omega

structure HeadsOk (n : Int) (l : List (Int × Int)) (h : List (List Int)) : Prop where
  len : (h.length : Int) = n
  at_ : ∀ x : Int, 0 ≤ x → x < n → rd ([] : List Int) h x = outs n l x

theorem dag_heads_tot (n : Int) (l : List (Int × Int)) (hl : l.length ≤ 100000) : Tot (dag_heads n l) (HeadsOk (clampN n) l) := by
  obtain ⟨c0, c1⟩ := clamp_le (n := n)
  unfold dag_heads
  show Tot (ass (0 ≤ clampN n ∧ clampN n ≤ clampN n ∧ clampN n ≤ lim) (bnd (List.replicate (clampN n).toNat []) _)) _
  generalize clampN n = m at *
  simp only [cond_some, Tot.cond_iff, Tot.ass_iff, Tot.bnd_iff, Tot.some_iff, Tot.map_iff, Tot.bind_iff, Nx.inl_iff, Nx.inr_iff, decide_eq_true_eq, decide_eq_false_iff_not]
  refine ⟨⟨c0, Int.le_refl _, by unfold lim; omega⟩, ?_⟩
  refine Tot.loop (fun (x : List (List Int) × Int) => 0 ≤ x.2 ∧ x.2 ≤ (l.length : Int) ∧ HeadsOk m (l.take x.2.toNat) x.1) (fun x => ((l.length : Int) - x.2).toNat) (fun x hx => ?_) ⟨by simp, by simp, ⟨by simp; omega, fun x h0 h1 => ?_⟩⟩
  rotate_left
  · rw [rd_eq x.toNat (by omega) (by simp; omega)]
    simp [outs]
  obtain ⟨h, x⟩ := x
  simp only at hx
  obtain ⟨h0, h1, hk⟩ := hx
  obtain ⟨hlen, hat⟩ := hk
  have hw1 : IntKind.i64.wrap (x + 1) = x + 1 := w64 (by omega) (by omega)
  simp only [dag_heads_b1, dag_heads_j1, dag_heads_j2, hw1, cond_some, Tot.cond_iff, Tot.ass_iff, Tot.bnd_iff, Tot.some_iff, Tot.map_iff, Tot.bind_iff, Nx.inl_iff, Nx.inr_iff, decide_eq_true_eq, decide_eq_false_iff_not]
  refine ⟨fun hlt => ⟨⟨h0, hlt⟩, ?_⟩, fun hge => ?_⟩
  · have htk := take_rd (z := z_dag_Arrow) h0 hlt
    generalize rd z_dag_Arrow l x = e at *
    obtain ⟨u, v⟩ := e
    simp only at *
    have hout : ∀ y, outs m (l.take (x + 1).toNat) y = outs m (l.take x.toNat) y ++ (if u = y ∧ 0 ≤ u ∧ u < m ∧ 0 ≤ v ∧ v < m then [v] else []) := fun y => by
      rw [htk]
      unfold outs
      rw [List.filterMap_append]
      congr 1
      rw [List.filterMap_cons, List.filterMap_nil]
      by_cases hc : u = y ∧ 0 ≤ u ∧ u < m ∧ 0 ≤ v ∧ v < m
      · rw [if_pos hc, if_pos hc]
      · rw [if_neg hc, if_neg hc]
    have hm : ((l.length : Int) - (x + 1)).toNat < ((l.length : Int) - x).toNat := by omega
    refine ⟨fun hb => ?_, fun hb => ⟨⟨by omega, by omega, ⟨hlen, fun y y0 y1 => ?_⟩⟩, hm⟩⟩
    · simp only [Bool.and_eq_true, Bool.or_eq_true, Bool.not_eq_true', Bool.and_eq_false_iff, Bool.or_eq_false_iff, Bool.not_eq_false', beq_iff_eq, bne_iff_ne, beq_eq_false_iff_ne, bne_eq_false_iff_eq, decide_eq_true_eq, decide_eq_false_iff_not] at hb
      have hru := hat u (by omega) (by omega)
      have hle := outs_len (n := m) (l := l.take x.toNat) (x := u)
      have : (l.take x.toNat).length ≤ l.length := List.length_take_le' _ _
      refine ⟨⟨by omega, by omega⟩, by rw [hru]; simp only [List.length_singleton]; unfold limA; omega, ⟨by omega, by omega, ⟨by rw [wr_length]; exact hlen, fun y y0 y1 => ?_⟩⟩, hm⟩
      rw [rd_wr (by omega) (by omega) y0, hout]
      split
      · rename_i hyu
        subst hyu
        rw [hru, if_pos ⟨rfl, by omega, by omega, by omega, by omega⟩]
      · rename_i hyu
        rw [hat y y0 y1, if_neg (fun hc => hyu hc.1.symm), List.append_nil]
    · simp only [Bool.and_eq_true, Bool.or_eq_true, Bool.not_eq_true', Bool.and_eq_false_iff, Bool.or_eq_false_iff, Bool.not_eq_false', beq_iff_eq, bne_iff_ne, beq_eq_false_iff_ne, bne_eq_false_iff_eq, decide_eq_true_eq, decide_eq_false_iff_not] at hb
      rw [hout, if_neg (fun hc => by omega), List.append_nil]
      exact hat y y0 y1
  · have hx : x = (l.length : Int) := by omega
    subst hx
    simpa using (⟨hlen, hat⟩ : HeadsOk m (l.take (l.length : Int).toNat) h)

theorem slices_Clone_eq (xs : List Int) (h : xs.length ≤ 1000000000) : slices_Clone_int_int xs = some xs := by
  rw [← Tot.eq_iff]
  simp only [slices_Clone_int_int, cond_some, Tot.cond_iff, Tot.ass_iff, Tot.bnd_iff, Tot.some_iff, Tot.map_iff, Tot.bind_iff, Nx.inl_iff, Nx.inr_iff, decide_eq_true_eq, decide_eq_false_iff_not, List.nil_append, and_true, List.length_nil]
  unfold limA; omega

open Classical in
/-- All that a number comes to, in order. -/
noncomputable def reachL (n : Int) (l : List (Int × Int)) (a : Int) : List Int := buildL (fun k => if Relation.TransGen (RR n l) a k then [k] else []) n.toNat

theorem tc_first {n : Int} {l : List (Int × Int)} {a b : Int} (h : Relation.TransGen (RR n l) a b) : 0 ≤ a ∧ a < n ∧ 0 ≤ b ∧ b < n := by
  induction h with
  | single hr => exact ⟨hr.2.1, hr.2.2.1, hr.2.2.2.1, hr.2.2.2.2⟩
  | tail _ hr ih => exact ⟨ih.1, ih.2.1, hr.2.2.2.1, hr.2.2.2.2⟩

theorem all_reach {n : Int} {l : List (Int × Int)} {a : Int} {seen : List Bool} (hl : (seen.length : Int) = n) (h : ∀ b : Int, 0 ≤ b → b < n → (rd false seen b = true ↔ Relation.TransGen (RR n l) a b)) :
    buildL (fun k => if rd false seen k = true then [k] else []) seen.length = reachL n l a := by
  unfold reachL
  rw [show n.toNat = seen.length from by omega]
  refine buildL_congr fun k h0 h1 => ?_
  by_cases hk : Relation.TransGen (RR n l) a k
  · rw [if_pos ((h k h0 (by omega)).2 hk), if_pos hk]
  · rw [if_neg fun hc => hk ((h k h0 (by omega)).1 hc), if_neg hk]

end Go.Tom
