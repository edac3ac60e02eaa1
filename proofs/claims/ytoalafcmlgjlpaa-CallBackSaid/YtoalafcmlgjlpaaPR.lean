/- Arrows and rings, as the document has them. -/
import Derived.Test.YtoalafcmlgjlpaaPA
import Derived.Test.YtoalafcmlgjlpaaGenx
set_option linter.unusedVariables false
set_option linter.unusedSimpArgs false
namespace Go.Tom
open Go

/-- One step along arrows. -/
def RR (n : Int) (l : List (Int × Int)) (x y : Int) : Prop := (x, y) ∈ l ∧ 0 ≤ x ∧ x < n ∧ 0 ≤ y ∧ y < n
def Closed (n : Int) (l : List (Int × Int)) (a : Int) (out : List Bool) (p : List (Int × Int)) : Prop := ∀ x y, (x, y) ∈ p → 0 ≤ x → x < n → 0 ≤ y → y < n → (x = a ∨ rd false out x = true) → rd false out y = true
def Sound (n : Int) (l : List (Int × Int)) (a : Int) (out : List Bool) : Prop := ∀ b : Int, 0 ≤ b → b < n → rd false out b = true → Relation.TransGen (RR n l) a b

theorem count_wr {out : List Bool} {i : Int} (h0 : 0 ≤ i) (h1 : i < (out.length : Int)) (h : rd false out i = false) : (wr out i true).count false + 1 = out.count false := by
  have hlt : i.toNat < out.length := by omega
  have hget : out[i.toNat] = false := by rw [← rd_eq (z := false) (i := i) i.toNat (by omega) hlt]; exact h
  unfold wr
  rw [List.count_set hlt, hget]
  have hpos : 0 < out.count false := List.count_pos_iff.2 (by rw [← hget]; exact List.getElem_mem _)
  simp
  omega

theorem r13_Reach_tot (n : Int) (l : List (Int × Int)) (a : Int) (hn : 0 ≤ n) (hn2 : n ≤ 100000) (hl : l.length ≤ 100000) :
    Tot (r13_Reach n l a) (fun out => (out.length : Int) = n ∧ ∀ b : Int, 0 ≤ b → b < n → (rd false out b = true ↔ Relation.TransGen (RR n l) a b)) := by
  unfold r13_Reach
  simp only [cond_some, Tot.cond_iff, Tot.ass_iff, Tot.bnd_iff, Tot.some_iff, Tot.map_iff, Tot.bind_iff, Nx.inl_iff, Nx.inr_iff, decide_eq_true_eq, decide_eq_false_iff_not]
  refine ⟨⟨hn, Int.le_refl _, by unfold lim; omega⟩, ?_⟩
  refine Tot.loop (fun x => (x.1.length : Int) = n ∧ Sound n l a x.1 ∧ (x.2 = false → Closed n l a x.1 l)) (fun x => 2 * x.1.count false + (if x.2 = true then 1 else 0)) (fun x hx => ?_) ⟨by simp; omega, fun b h0 h1 hb => ?_, by simp⟩
  rotate_left
  · exfalso
    rw [rd_eq b.toNat (by omega) (by simp; omega)] at hb
    simp at hb
  obtain ⟨out, ag⟩ := x
  simp only at hx
  obtain ⟨hlen, hs, hcl⟩ := hx
  simp only [r13_Reach_b1, r13_Reach_j1, cond_some, Tot.cond_iff, Tot.ass_iff, Tot.bnd_iff, Tot.some_iff, Tot.map_iff, Tot.bind_iff, Nx.inl_iff, Nx.inr_iff, decide_eq_true_eq, decide_eq_false_iff_not]
  refine ⟨fun hag => ?_, fun hag => ?_⟩
  · subst hag
    refine Tot.loop (fun y => (y.1.length : Int) = n ∧ Sound n l a y.1 ∧ 0 ≤ y.2.2 ∧ y.2.2 ≤ (l.length : Int) ∧ y.1.count false ≤ out.count false ∧ (y.2.1 = true → y.1.count false < out.count false) ∧ (y.2.1 = false → Closed n l a y.1 (l.take y.2.2.toNat))) (fun y => ((l.length : Int) - y.2.2).toNat) (fun y hy => ?_)
      ⟨hlen, hs, by simp, by simp, Nat.le_refl _, by simp, fun _ x y hxy => by simp at hxy⟩
    obtain ⟨o, g, y⟩ := y
    simp only at hy
    obtain ⟨k1, k2, k3, k4, k5, k6, k7⟩ := hy
    have hw1 : IntKind.i64.wrap (y + 1) = y + 1 := w64 (by omega) (by omega)
    simp only [r13_Reach_b2, r13_Reach_j2, r13_Reach_j3, hw1, cond_some, Tot.cond_iff, Tot.ass_iff, Tot.bnd_iff, Tot.some_iff, Tot.map_iff, Tot.bind_iff, Nx.inl_iff, Nx.inr_iff, decide_eq_true_eq, decide_eq_false_iff_not]
    refine ⟨fun hylt => ⟨⟨k3, hylt⟩, ?_⟩, fun hyge => ?_⟩
    · have htk := take_rd (z := z_r13_Arrow) k3 hylt
      have hmem := rd_mem (z := z_r13_Arrow) k3 hylt
      generalize rd z_r13_Arrow l y = e at *
      obtain ⟨u, v⟩ := e
      simp only at *
      have hm : ((l.length : Int) - (y + 1)).toNat < ((l.length : Int) - y).toNat := by omega
      have hcl1 : (g = false → (0 ≤ u → u < n → 0 ≤ v → v < n → (u = a ∨ rd false o u = true) → rd false o v = true)) → g = false → Closed n l a o (l.take (y + 1).toNat) := fun hh hg x z hxz => by
        rw [htk, List.mem_append] at hxz
        rcases hxz with hxz | hxz
        · exact k7 hg x z hxz
        · simp only [List.mem_singleton, Prod.mk.injEq] at hxz
          obtain ⟨rfl, rfl⟩ := hxz
          exact hh hg
      refine ⟨fun hb => ?_, fun hb => ⟨⟨k1, k2, by omega, by omega, k5, k6, hcl1 fun hg a1 a2 a3 a4 _ => ?_⟩, hm⟩, fun hb => ⟨fun hb2 => ?_, fun hb3 => ?_, fun hb3 => ⟨⟨k1, k2, by omega, by omega, k5, k6, hcl1 fun hg a1 a2 a3 a4 a5 => ?_⟩, hm⟩⟩⟩
      · simp only [Bool.and_eq_true, Bool.or_eq_true, Bool.not_eq_true', Bool.and_eq_false_iff, Bool.or_eq_false_iff, Bool.not_eq_false', beq_iff_eq, bne_iff_ne, beq_eq_false_iff_ne, bne_eq_false_iff_eq, decide_eq_true_eq, decide_eq_false_iff_not] at hb; omega
      · simp only [Bool.and_eq_true, Bool.or_eq_true, Bool.not_eq_true', Bool.and_eq_false_iff, Bool.or_eq_false_iff, Bool.not_eq_false', beq_iff_eq, bne_iff_ne, beq_eq_false_iff_ne, bne_eq_false_iff_eq, decide_eq_true_eq, decide_eq_false_iff_not] at hb
        rcases hb with hb | hb
        · omega
        · exact hb
      · simp only [Bool.and_eq_true, Bool.or_eq_true, Bool.not_eq_true', Bool.and_eq_false_iff, Bool.or_eq_false_iff, Bool.not_eq_false', beq_iff_eq, bne_iff_ne, beq_eq_false_iff_ne, bne_eq_false_iff_eq, decide_eq_true_eq, decide_eq_false_iff_not] at hb; omega
      · simp only [Bool.and_eq_true, Bool.or_eq_true, Bool.not_eq_true', Bool.and_eq_false_iff, Bool.or_eq_false_iff, Bool.not_eq_false', beq_iff_eq, bne_iff_ne, beq_eq_false_iff_ne, bne_eq_false_iff_eq, decide_eq_true_eq, decide_eq_false_iff_not] at hb hb3
        have hv0 : 0 ≤ v := by omega
        have hvn : v < n := by omega
        have hu0 : 0 ≤ u := by omega
        have hun : u < n := by omega
        have hcw := count_wr (out := o) hv0 (by omega) (by simpa using hb.2)
        have hRR : RR n l u v := ⟨hmem, hu0, hun, hv0, hvn⟩
        refine ⟨⟨hv0, by omega⟩, ⟨⟨by rw [wr_length]; exact k1, fun b b0 bn hbb => ?_, by omega, by omega, by omega, fun _ => by omega, by simp⟩, hm⟩⟩
        rw [rd_wr hv0 (by omega) b0] at hbb
        split at hbb
        · rename_i hbv
          subst hbv
          rcases hb3 with rfl | hb3
          · exact .single hRR
          · exact .tail (k2 u hu0 hun hb3) hRR
        · exact k2 b b0 bn hbb
      · simp only [Bool.and_eq_true, Bool.or_eq_true, Bool.not_eq_true', Bool.and_eq_false_iff, Bool.or_eq_false_iff, Bool.not_eq_false', beq_iff_eq, bne_iff_ne, beq_eq_false_iff_ne, bne_eq_false_iff_eq, decide_eq_true_eq, decide_eq_false_iff_not] at hb3
        rcases a5 with rfl | a5
        · exact absurd rfl hb3.1
        · rw [hb3.2] at a5; simp at a5
    · have hy : y = (l.length : Int) := by omega
      subst hy
      simp only [Int.toNat_natCast, List.take_length] at k7
      refine ⟨⟨k1, k2, k7⟩, ?_⟩
      cases g with
      | true => have := k6 rfl; simp; omega
      | false => simp; omega
  · refine ⟨hlen, fun b h0 h1 => ⟨hs b h0 h1, fun ht => ?_⟩⟩
    have hcl := hcl hag
    induction ht with
    | single hr => obtain ⟨r1, r2, r3, r4, r5⟩ := hr; exact hcl _ _ r1 r2 r3 r4 r5 (.inl rfl)
    | tail hab hr ih => obtain ⟨r1, r2, r3, r4, r5⟩ := hr; exact hcl _ _ r1 r2 r3 r4 r5 (.inr (ih r2 r3))

/-- There is a ring. -/
def RingP (n : Int) (l : List (Int × Int)) : Prop := ∃ i : Int, 0 ≤ i ∧ i < n ∧ Relation.TransGen (RR n l) i i

theorem r13_Ring_tot (n : Int) (l : List (Int × Int)) (hn : 0 ≤ n) (hn2 : n ≤ 100000) (hl : l.length ≤ 100000) : Tot (r13_Ring n l) (fun b => b = true ↔ RingP n l) := by
  unfold r13_Ring
  refine Tot.loop (fun x => 0 ≤ x ∧ x ≤ n ∧ ∀ k : Int, 0 ≤ k → k < x → ¬ Relation.TransGen (RR n l) k k) (fun x => (n - x).toNat) (fun x hx => ?_) ⟨by omega, by omega, fun k _ _ => by omega⟩
  obtain ⟨h0, h1, h2⟩ := hx
  have hw1 : IntKind.i64.wrap (x + 1) = x + 1 := w64 (by omega) (by omega)
  simp only [r13_Ring_b1, r13_Ring_j1, hw1, cond_some, Tot.cond_iff, Tot.ass_iff, Tot.bnd_iff, Tot.some_iff, Tot.map_iff, Tot.bind_iff, Nx.inl_iff, Nx.inr_iff, decide_eq_true_eq, decide_eq_false_iff_not]
  refine ⟨fun hlt => ?_, fun hge => ?_⟩
  · refine (r13_Reach_tot n l x hn hn2 hl).mono fun out hout => ?_
    obtain ⟨o1, o2⟩ := hout
    refine ⟨by omega, fun hr => ?_, fun hr => ⟨⟨by omega, by omega, fun k a b => ?_⟩, by omega⟩⟩
    · simp only [true_iff]
      exact ⟨x, h0, hlt, (o2 x h0 hlt).1 hr⟩
    · by_cases hkx : k = x
      · rw [hkx]
        intro hc
        rw [(o2 x h0 hlt).2 hc] at hr
        simp at hr
      · exact h2 k a (by omega)
  · simp only [Bool.false_eq_true, false_iff]
    rintro ⟨i, a, b, c⟩
    exact h2 i a (by omega) c

end Go.Tom
