/- The document's long numbers: what each function answers, of a number's digits. -/
import Derived.Test.YtomdhjdgcfcjdaaGreatDoorPDig
import Derived.Test.YtomdhjdgcfcjdaaGreatDoorPKn
import Derived.Test.YtomdhjdgcfcjdaaGreatDoorGenx
set_option linter.unusedVariables false
set_option linter.unusedSimpArgs false
namespace Go.Tom
open Go

abbrev d16 (n : Nat) : List Int := dg 65536 n
abbrev d32 (n : Nat) : List Int := dg 4294967296 n

theorem b16 : (2 : Nat) ≤ 65536 := by omega
theorem b32 : (2 : Nat) ≤ 4294967296 := by omega

/-- A number of not too many digits. -/
def Sz (n : Nat) : Prop := (d16 n).length ≤ 1000000

theorem d16_mono {x y : Nat} (h : x ≤ y) : (d16 x).length ≤ (d16 y).length := dg_len b16 (Nat.lt_of_le_of_lt h (dg_lt b16))
theorem d16_mul (x y : Nat) : (d16 (x * y)).length ≤ (d16 x).length + (d16 y).length := dg_len b16 (by
  rw [Nat.pow_add]
  exact Nat.mul_lt_mul'' (dg_lt b16) (dg_lt b16))
theorem d16_add (x y : Nat) : (d16 (x + y)).length ≤ max (d16 x).length (d16 y).length + 1 := dg_len b16 (by
  have h1 : x < 65536 ^ max (d16 x).length (d16 y).length := Nat.lt_of_lt_of_le (dg_lt b16) (Nat.pow_le_pow_right (by omega) (Nat.le_max_left ..))
  have h2 : y < 65536 ^ max (d16 x).length (d16 y).length := Nat.lt_of_lt_of_le (dg_lt b16) (Nat.pow_le_pow_right (by omega) (Nat.le_max_right ..))
  rw [Nat.pow_succ]
  generalize 65536 ^ max (d16 x).length (d16 y).length = M at h1 h2 ⊢
  omega)
theorem d32_len (n : Nat) : (d32 n).length ≤ (d16 n).length := dg_len b32 (Nat.lt_of_lt_of_le (dg_lt b16) (Nat.pow_le_pow_left (by omega) _))
theorem Sz.le {x y : Nat} (h : Sz y) (hx : x ≤ y) : Sz x := Nat.le_trans (d16_mono hx) h

theorem sl_zero {α : Type} {l : List α} {x : Int} : sl l 0 x = l.take x.toNat := by simp [sl]

theorem r01_Cut_eq {l : List Int} (h : Dg 65536 l) (hl : l.length ≤ 10000000) : r01_Cut l = some (d16 (vl 65536 l).toNat) := by
  rw [← Tot.eq_iff]
  unfold r01_Cut
  refine Tot.loop (fun x => 0 ≤ x ∧ x ≤ (l.length : Int) ∧ ∀ i : Nat, x ≤ (i : Int) → i < l.length → rd 0 l i = 0) (fun x => x.toNat) (fun x hx => ?_) ⟨by omega, by omega, fun i _ _ => by omega⟩
  obtain ⟨h0, h1, h2⟩ := hx
  have hw : IntKind.i64.wrap (x - 1) = x - 1 := w64 (by omega) (by omega)
  simp only [r01_Cut_b1, r01_Cut_j1, hw, cond_some, Tot.cond_iff, Tot.ass_iff, Tot.bnd_iff, Tot.some_iff, Tot.map_iff, Tot.bind_iff, Nx.inl_iff, Nx.inr_iff, decide_eq_true_eq, decide_eq_false_iff_not]
  refine ⟨fun hx => by omega, fun hc => ?_, fun hc => ?_⟩
  · simp only [Bool.and_eq_true, Bool.or_eq_true, Bool.not_eq_true', Bool.and_eq_false_iff, Bool.or_eq_false_iff, Bool.not_eq_false', beq_iff_eq, bne_iff_ne, beq_eq_false_iff_ne, bne_eq_false_iff_eq, decide_eq_true_eq, decide_eq_false_iff_not] at hc
    refine ⟨⟨by omega, by omega, fun i hi hil => ?_⟩, by omega⟩
    by_cases hix : (i : Int) = x - 1
    · rw [hix]; exact hc.2
    · exact h2 i (by omega) hil
  · simp only [Bool.and_eq_true, Bool.or_eq_true, Bool.not_eq_true', Bool.and_eq_false_iff, Bool.or_eq_false_iff, Bool.not_eq_false', beq_iff_eq, bne_iff_ne, beq_eq_false_iff_ne, bne_eq_false_iff_eq, decide_eq_true_eq, decide_eq_false_iff_not] at hc
    refine ⟨⟨by omega, h0, h1⟩, ?_, ?_⟩
    · rw [sl_zero]; simp only [List.length_nil, List.length_take]; unfold limA; omega
    · rw [sl_zero, List.nil_append]
      refine cut_dg b16 h (k := x.toNat) (by omega) (fun i hi hil => h2 i (by omega) hil) ?_
      rcases hc with hc | hc
      · exact .inl (by omega)
      · by_cases hx0 : x = 0
        · left; omega
        · right
          have : ((x.toNat - 1 : Nat) : Int) = x - 1 := by omega
          rw [this]; exact hc

theorem r01_Of_eq {n : Nat} (h : n ≤ 18446744073709551615) : r01_Of (n : Int) = some (d16 n) := by
  rw [← Tot.eq_iff]
  unfold r01_Of
  refine Tot.loop (fun x => ∃ m : Nat, x.1 = (m : Int) ∧ m ≤ n ∧ x.2 ++ d16 m = d16 n) (fun x => x.1.toNat) (fun x hx => ?_) ⟨n, rfl, Nat.le_refl _, rfl⟩
  obtain ⟨a, l⟩ := x
  obtain ⟨m, h1, h2, h3⟩ := hx
  simp only at h1 h3
  subst h1
  simp only [r01_Of_b1, r01_Of_j1, cond_some, Tot.cond_iff, Tot.ass_iff, Tot.bnd_iff, Tot.some_iff, Tot.map_iff, Tot.bind_iff, Nx.inl_iff, Nx.inr_iff, decide_eq_true_eq, decide_eq_false_iff_not]
  have hw1 : IntKind.i64.wrap ((m : Int).tmod 65536) = ((m % 65536 : Nat) : Int) := by
    rw [Int.tmod_eq_emod_of_nonneg (by omega)]
    rw [w64 (by omega) (by omega)]
    omega
  have hw2 : IntKind.u64.wrap ((m : Int).tdiv 65536) = ((m / 65536 : Nat) : Int) := by
    rw [Int.tdiv_eq_ediv_of_nonneg (by omega)]
    rw [IntWalk.u64_in _ (by omega)]
    omega
  rw [hw1, hw2]
  refine ⟨fun hm => ⟨by omega, ?_, by omega, ⟨m / 65536, rfl, by omega, ?_⟩, by omega⟩, fun hm => ?_⟩
  · have hl : (l ++ d16 m).length ≤ 4 := by rw [h3]; exact dg_len b16 (by omega)
    rw [List.length_append, d16, dg_pos b16 (by omega)] at hl
    simp only [List.length_cons, List.length_nil] at hl ⊢
    unfold limA
    omega
  · rw [← h3, d16, d16, dg_pos b16 (show 0 < m by omega), List.append_assoc]
    rfl
  · have hm0 : m = 0 := by omega
    subst hm0
    rw [← h3, d16, dg_zero, List.append_nil]
end Go.Tom
