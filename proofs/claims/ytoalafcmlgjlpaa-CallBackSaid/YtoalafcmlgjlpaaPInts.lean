/- Lists of numbers: what is looked up in them, whether two are the same. -/
import Derived.Test.YtoalafcmlgjlpaaPA
import Derived.Test.YtoalafcmlgjlpaaGenx
set_option linter.unusedVariables false
set_option linter.unusedSimpArgs false
namespace Go.Tom
open Go

theorem dec_eq {p : Prop} {d d' : Decidable p} : @decide p d = @decide p d' := by cases Subsingleton.elim d d'; rfl

theorem slices_Index_int_tot (l : List Int) (v : Int) (hl : l.length ≤ 100000) : Tot (slices_Index_int_int l v) (fun r => (r = -1 ∧ v ∉ l) ∨ (0 ≤ r ∧ r < (l.length : Int) ∧ rd 0 l r = v ∧ v ∈ l ∧ ∀ k : Int, 0 ≤ k → k < r → rd 0 l k ≠ v)) := by
  unfold slices_Index_int_int
  refine Tot.loop (fun x => 0 ≤ x ∧ x ≤ (l.length : Int) ∧ ∀ k : Int, 0 ≤ k → k < x → rd 0 l k ≠ v) (fun x => ((l.length : Int) - x).toNat) (fun x hx => ?_) ⟨by omega, by omega, fun k _ _ => by omega⟩
  obtain ⟨h0, h1, h2⟩ := hx
  have hw1 : IntKind.i64.wrap (x + 1) = x + 1 := w64 (by omega) (by omega)
  simp only [slices_Index_int_int_b1, slices_Index_int_int_j1, hw1, cond_some, Tot.cond_iff, Tot.ass_iff, Tot.bnd_iff, Tot.some_iff, Tot.map_iff, Tot.bind_iff, Nx.inl_iff, Nx.inr_iff, decide_eq_true_eq, decide_eq_false_iff_not]
  refine ⟨fun hlt => ⟨⟨h0, hlt⟩, fun he => ?_, fun he => ⟨⟨by omega, by omega, fun k a b => ?_⟩, by omega⟩⟩, fun hge => .inl ⟨by trivial, fun hv => ?_⟩⟩
  · simp only [Bool.and_eq_true, Bool.or_eq_true, Bool.not_eq_true', Bool.and_eq_false_iff, Bool.or_eq_false_iff, Bool.not_eq_false', beq_iff_eq, bne_iff_ne, beq_eq_false_iff_ne, bne_eq_false_iff_eq, decide_eq_true_eq, decide_eq_false_iff_not] at he
    exact .inr ⟨h0, hlt, he.symm, by rw [he]; exact rd_mem h0 hlt, h2⟩
  · simp only [Bool.and_eq_true, Bool.or_eq_true, Bool.not_eq_true', Bool.and_eq_false_iff, Bool.or_eq_false_iff, Bool.not_eq_false', beq_iff_eq, bne_iff_ne, beq_eq_false_iff_ne, bne_eq_false_iff_eq, decide_eq_true_eq, decide_eq_false_iff_not] at he
    by_cases hkx : k = x
    · rw [hkx]; exact fun hc => he hc.symm
    · exact h2 k a (by omega)
  · obtain ⟨j, hj, rfl⟩ := List.getElem_of_mem hv
    exact h2 j (by omega) (by omega) (rd_eq j rfl hj)

theorem slices_Contains_int_eq (l : List Int) (v : Int) (hl : l.length ≤ 100000) : slices_Contains_int_int l v = some (decide (v ∈ l)) := by
  rw [← Tot.eq_iff]
  simp only [slices_Contains_int_int, cond_some, Tot.cond_iff, Tot.ass_iff, Tot.bnd_iff, Tot.some_iff, Tot.map_iff, Tot.bind_iff, Nx.inl_iff, Nx.inr_iff, decide_eq_true_eq, decide_eq_false_iff_not]
  refine (slices_Index_int_tot l v hl).mono fun r hr => ?_
  rcases hr with ⟨rfl, hr⟩ | ⟨h0, h1, h2, h3, _⟩
  · simp [hr]
  · simp [h3, h0]

theorem r11_Ints_eq (a b : List Int) (ha : a.length ≤ 100000) : r11_Ints a b = some (decide (a = b)) := by
  suffices hh : Tot (r11_Ints a b) (fun r => r = true ↔ a = b) by rw [hh.dec]; exact congrArg some dec_eq
  simp only [r11_Ints, cond_some, Tot.cond_iff, Tot.ass_iff, Tot.bnd_iff, Tot.some_iff, Tot.map_iff, Tot.bind_iff, Nx.inl_iff, Nx.inr_iff, decide_eq_true_eq, decide_eq_false_iff_not]
  refine ⟨fun h => ?_, fun h => ?_⟩
  · simp only [Bool.and_eq_true, Bool.or_eq_true, Bool.not_eq_true', Bool.and_eq_false_iff, Bool.or_eq_false_iff, Bool.not_eq_false', beq_iff_eq, bne_iff_ne, beq_eq_false_iff_ne, bne_eq_false_iff_eq, decide_eq_true_eq, decide_eq_false_iff_not] at h
    simp only [Bool.false_eq_true, false_iff]
    intro hc; rw [hc] at h; exact h rfl
  · simp only [Bool.and_eq_true, Bool.or_eq_true, Bool.not_eq_true', Bool.and_eq_false_iff, Bool.or_eq_false_iff, Bool.not_eq_false', beq_iff_eq, bne_iff_ne, beq_eq_false_iff_ne, bne_eq_false_iff_eq, decide_eq_true_eq, decide_eq_false_iff_not] at h
    refine Tot.loop (fun x => 0 ≤ x ∧ x ≤ (a.length : Int) ∧ ∀ k : Int, 0 ≤ k → k < x → rd 0 a k = rd 0 b k) (fun x => ((a.length : Int) - x).toNat) (fun x hx => ?_) ⟨by omega, by omega, fun k _ _ => by omega⟩
    obtain ⟨h0, h1, h2⟩ := hx
    have hw1 : IntKind.i64.wrap (x + 1) = x + 1 := w64 (by omega) (by omega)
    simp only [r11_Ints_b1, r11_Ints_j1, hw1, cond_some, Tot.cond_iff, Tot.ass_iff, Tot.bnd_iff, Tot.some_iff, Tot.map_iff, Tot.bind_iff, Nx.inl_iff, Nx.inr_iff, decide_eq_true_eq, decide_eq_false_iff_not]
    refine ⟨fun hlt => ⟨⟨h0, hlt⟩, ⟨h0, by omega⟩, fun he => ?_, fun he => ⟨⟨by omega, by omega, fun k c d => ?_⟩, by omega⟩⟩, fun hge => ?_⟩
    · simp only [Bool.and_eq_true, Bool.or_eq_true, Bool.not_eq_true', Bool.and_eq_false_iff, Bool.or_eq_false_iff, Bool.not_eq_false', beq_iff_eq, bne_iff_ne, beq_eq_false_iff_ne, bne_eq_false_iff_eq, decide_eq_true_eq, decide_eq_false_iff_not] at he
      simp only [Bool.false_eq_true, false_iff]
      intro hc; rw [hc] at he; exact he rfl
    · simp only [Bool.and_eq_true, Bool.or_eq_true, Bool.not_eq_true', Bool.and_eq_false_iff, Bool.or_eq_false_iff, Bool.not_eq_false', beq_iff_eq, bne_iff_ne, beq_eq_false_iff_ne, bne_eq_false_iff_eq, decide_eq_true_eq, decide_eq_false_iff_not] at he
      by_cases hkx : k = x
      · rw [hkx]; exact he
      · exact h2 k c (by omega)
    · simp only [true_iff]
      refine List.ext_getElem (by omega) fun k hk1 hk2 => ?_
      have := h2 k (by omega) (by omega)
      rwa [rd_eq k rfl hk1, rd_eq k rfl hk2] at this
end Go.Tom
