/- Wishes: the document's sums and common numbers, the program's. -/
import Derived.Test.YtomdhjdgcfcjdaaPN16
set_option linter.unusedVariables false
set_option linter.unusedSimpArgs false
namespace Go.Tom
open Go

/-- A loop that folds a row, told by other things. -/
theorem loop_fold' {α β σ ρ : Type} (enc : β → σ) (xs : List α) (f : σ × Int → Option ((σ × Int) ⊕ ρ)) (g : β → α → β) (I : Nat → β → Prop) {b0 : β} (h0 : I 0 b0)
    (hstep : ∀ (i : Nat) (hi : i < xs.length) (b : β), I i b → f (enc b, (i : Int)) = some (.inl (enc (g b xs[i]), (i : Int) + 1)) ∧ I (i + 1) (g b xs[i])) {Q : ρ → Prop}
    (hend : I xs.length (xs.foldl g b0) → Tot (f (enc (xs.foldl g b0), (xs.length : Int))) (fun z => ∃ r, z = .inr r ∧ Q r)) : Tot (loopM f (enc b0, 0)) Q := by
  refine Tot.loop (fun x => ∃ (i : Nat) (b : β), x.2 = (i : Int) ∧ i ≤ xs.length ∧ x.1 = enc b ∧ b = (xs.take i).foldl g b0 ∧ I i b) (fun x => ((xs.length : Int) - x.2).toNat) (fun x hx => ?_) ⟨0, b0, rfl, Nat.zero_le _, rfl, rfl, h0⟩
  obtain ⟨s, i0⟩ := x
  obtain ⟨i, b, h1, h2, h3, h4, h5⟩ := hx
  simp only at h1 h3
  subst h1 h3
  rcases Nat.lt_or_ge i xs.length with hi | hi
  · obtain ⟨k1, k2⟩ := hstep i hi b h5
    rw [k1]
    refine Tot.some_iff.2 (Nx.inl_iff.2 ⟨⟨i + 1, g b xs[i], by simp, hi, rfl, ?_, k2⟩, by simp only; omega⟩)
    rw [List.take_succ_eq_append_getElem hi, List.foldl_append, ← h4]
    rfl
  · have hin : i = xs.length := by omega
    subst hin
    rw [List.take_length] at h4
    subst h4
    refine (hend h5).mono fun z hz => ?_
    obtain ⟨r, rfl, hr⟩ := hz
    exact Nx.inr_iff.2 hr

theorem add_size {p q : FP} {k m : Nat} (hp : S16 k p) (hq : S16 m q) : S16 (k + m + 1) (addP p q) := by
  obtain ⟨p1, p2⟩ := hp
  obtain ⟨q1, q2⟩ := hq
  have m1 := d16_mul p.1 q.2
  have m2 := d16_mul q.1 p.2
  have m3 := d16_mul p.2 q.2
  have m4 := d16_add (p.1 * q.2) (q.1 * p.2)
  exact low_size (by omega) (by omega)

theorem S16.mono {k m : Nat} {p : FP} (h : S16 k p) (hk : k ≤ m) : S16 m p := ⟨Nat.le_trans h.1 hk, Nat.le_trans h.2 hk⟩

/-- Wishes that are short. -/
def Short (l : List FP) : Prop := ∀ p ∈ l, S16 8 p ∧ 0 < p.2 ∧ Nat.gcd p.1 p.2 = 1

theorem d16_one : (d16 1).length ≤ 1 := dg_len b16 (by omega)
theorem S16_zero : S16 1 (0, 1) := ⟨by rw [d16_zero]; simp, d16_one⟩

theorem r48_Sum_eq {l : List FP} (hl : l.length ≤ 1000) (hs : Short l) : r48_Sum (l.map q16) = some (q16 (sumP l)) ∧ S16 (9 * l.length + 1) (sumP l) := by
  have hz : r04_Int (0 : Int) = some (q16 (0, 1)) := r04_Int_eq (a := 0) (by omega)
  have hint : Tot (r48_Sum (l.map q16)) (fun r => r = q16 (sumP l) ∧ S16 (9 * l.length + 1) (sumP l)) := by
    simp only [r48_Sum, bnd, hz, Option.bind_some]
    refine loop_fold' q16 l _ addP (fun i b => S16 (9 * i + 1) b ∧ 0 < b.2) ⟨S16_zero, by show 0 < 1; omega⟩ (fun i hi b hb => ?_) (fun hb => ?_)
    · obtain ⟨hp, hp0, _⟩ := hs l[i] (List.getElem_mem hi)
      have hw : IntKind.i64.wrap ((i : Int) + 1) = (i : Int) + 1 := w64 (by omega) (by omega)
      have hok := add_ok hb.2 hp0
      have hg := Nat.gcd_pos_of_pos_right (b.1 * l[i].2 + l[i].1 * b.2) (Nat.mul_pos hb.2 hp0)
      have ha := r04_Add_eq (hb.1.mono (show 9 * i + 1 ≤ 400000 by omega)) (hp.mono (show 8 ≤ 400000 by omega)) (by omega) hg
      refine ⟨?_, (add_size hb.1 hp).mono (by omega), hok.1⟩
      rw [← Tot.eq_iff]
      simp only [r48_Sum_b1, rd_map hi, ha, Option.bind_some, hw, List.length_map, cond_some, Tot.cond_iff, Tot.ass_iff, Tot.bnd_iff, Tot.some_iff, Tot.map_iff, Tot.bind_iff, Nx.inl_iff, Nx.inr_iff, decide_eq_true_eq, decide_eq_false_iff_not]
      exact ⟨fun _ => ⟨by omega, trivial⟩, fun hc => absurd (by omega) hc⟩
    · simp only [r48_Sum_b1, r48_Sum_j1, List.length_map, cond_some, Tot.cond_iff, Tot.ass_iff, Tot.bnd_iff, Tot.some_iff, Tot.map_iff, Tot.bind_iff, Nx.inl_iff, Nx.inr_iff, decide_eq_true_eq, decide_eq_false_iff_not]
      exact ⟨fun hc => absurd hc (by omega), fun _ => ⟨_, rfl, rfl, hb.1⟩⟩
  obtain ⟨r, h1, h2, h3⟩ := hint
  rw [h2] at h1
  exact ⟨h1, h3⟩

theorem lcm_size {a b : Nat} (hb : 0 < b) : (d16 (Nat.lcm a b)).length ≤ (d16 a).length + (d16 b).length := by
  refine Nat.le_trans (d16_mono ?_) (d16_mul a b)
  unfold Nat.lcm
  exact Nat.div_le_self ..

theorem r04_Lcm_eq {l : List FP} {k : Nat} (hl : l.length * k ≤ 800000) (hk : k ≤ 800000) (hs : ∀ p ∈ l, (d16 p.2).length ≤ k ∧ 0 < p.2) : r04_Lcm (l.map q16) = some (d16 (comD l)) ∧ (d16 (comD l)).length ≤ k * l.length + 1 := by
  have h1 : r01_Of (1 : Int) = some (d16 1) := r01_Of_eq (n := 1) (by omega)
  have hll : l.length ≤ 800000 ∨ k = 0 := by
    rcases Nat.eq_zero_or_pos k with h | h
    · exact .inr h
    · left
      have : l.length * 1 ≤ l.length * k := Nat.mul_le_mul_left _ h
      omega
  have hkl : l.length = 0 ∨ 0 < k := by
    cases l with
    | nil => exact .inl rfl
    | cons p l =>
      right
      have := hs p List.mem_cons_self
      rcases Nat.eq_zero_or_pos k with h | h
      · have h0 := d16_nil (x := p.2) (by omega)
        omega
      · exact h
  have hint : Tot (r04_Lcm (l.map q16)) (fun r => r = d16 (comD l) ∧ (d16 (comD l)).length ≤ k * l.length + 1) := by
    simp only [r04_Lcm, h1, Option.bind_some]
    refine loop_fold' d16 l _ (fun d p => Nat.lcm d p.2) (fun i d => (d16 d).length ≤ k * i + 1) (by simpa using d16_one) (fun i hi d hd => ?_) (fun hd => ?_)
    · obtain ⟨hp, hp0⟩ := hs l[i] (List.getElem_mem hi)
      have hw : IntKind.i64.wrap ((i : Int) + 1) = (i : Int) + 1 := w64 (by omega) (by omega)
      have hik : k * i + k ≤ l.length * k := by rw [← Nat.mul_succ, Nat.mul_comm]; exact Nat.mul_le_mul_right _ hi
      have hlc := r03_Lcm_eq (x := d) (y := l[i].2) (by omega) (by omega)
      have hsz := lcm_size (a := d) hp0
      refine ⟨?_, by show _ ≤ k * (i + 1) + 1; rw [Nat.mul_succ]; omega⟩
      have hq2 : (q16 l[i]).2 = d16 l[i].2 := rfl
      rw [← Tot.eq_iff]
      simp only [r04_Lcm_b1, rd_map hi, hq2, hlc, Option.bind_some, hw, List.length_map, cond_some, Tot.cond_iff, Tot.ass_iff, Tot.bnd_iff, Tot.some_iff, Tot.map_iff, Tot.bind_iff, Nx.inl_iff, Nx.inr_iff, decide_eq_true_eq, decide_eq_false_iff_not]
      exact ⟨fun _ => ⟨by omega, trivial⟩, fun hc => absurd (by omega) hc⟩
    · simp only [r04_Lcm_b1, r04_Lcm_j1, List.length_map, cond_some, Tot.cond_iff, Tot.ass_iff, Tot.bnd_iff, Tot.some_iff, Tot.map_iff, Tot.bind_iff, Nx.inl_iff, Nx.inr_iff, decide_eq_true_eq, decide_eq_false_iff_not]
      exact ⟨fun hc => absurd hc (by omega), fun _ => ⟨_, rfl, rfl, hd⟩⟩
  obtain ⟨r, g1, g2, g3⟩ := hint
  rw [g2] at g1
  exact ⟨g1, g3⟩
end Go.Tom
