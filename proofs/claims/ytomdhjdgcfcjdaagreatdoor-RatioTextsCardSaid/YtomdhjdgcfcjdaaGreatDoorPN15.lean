/- Fractions in lowest terms; what wishes have in common. No program in sight. -/
import Derived.Test.YtomdhjdgcfcjdaaGreatDoorPN14
set_option linter.unusedVariables false
set_option linter.unusedSimpArgs false
namespace Go.Tom
open Go

theorem low_val {a b : Nat} : (lowP a b).1 * b = a * (lowP a b).2 := by
  unfold lowP
  simp only
  rw [← Nat.mul_div_assoc _ (Nat.gcd_dvd_right a b), Nat.mul_comm (a / _), ← Nat.mul_div_assoc _ (Nat.gcd_dvd_left a b), Nat.mul_comm b a]

theorem low_cop {a b : Nat} (h : 0 < Nat.gcd a b) : Nat.gcd (lowP a b).1 (lowP a b).2 = 1 := by
  unfold lowP
  simp only
  rw [Nat.gcd_div (Nat.gcd_dvd_left a b) (Nat.gcd_dvd_right a b), Nat.div_self h]

theorem low_pos {a b : Nat} (h : 0 < b) : 0 < (lowP a b).2 := Nat.div_pos (Nat.gcd_le_right a h) (Nat.gcd_pos_of_pos_right _ h)

/-- Lowest terms are the only ones. -/
theorem low_uniq {x y a b : Nat} (hc : Nat.gcd x y = 1) (hb : 0 < b) (h : x * b = a * y) : (x, y) = lowP a b := by
  have hg : 0 < Nat.gcd a b := Nat.gcd_pos_of_pos_right _ hb
  have hc2 := low_cop hg
  have hv := low_val (a := a) (b := b)
  obtain ⟨u, hu⟩ : ∃ u, u = (lowP a b).1 := ⟨_, rfl⟩
  obtain ⟨v, hvv⟩ : ∃ v, v = (lowP a b).2 := ⟨_, rfl⟩
  rw [← hu, ← hvv] at hc2 hv
  have hv0 : 0 < v := by rw [hvv]; exact low_pos hb
  -- x v = u y
  have hxv : x * v = u * y := by
    have e : b * (x * v) = b * (u * y) := by
      calc b * (x * v) = (x * b) * v := by rw [Nat.mul_left_comm, Nat.mul_assoc]
        _ = a * y * v := by rw [h]
        _ = (a * v) * y := by rw [Nat.mul_right_comm]
        _ = u * b * y := by rw [← hv]
        _ = b * (u * y) := by rw [Nat.mul_comm u b, Nat.mul_assoc]
    exact Nat.eq_of_mul_eq_mul_left hb e
  have h1 : x ∣ u := Nat.Coprime.dvd_of_dvd_mul_right (show Nat.Coprime x y from hc) (by rw [← hxv]; exact Nat.dvd_mul_right ..)
  have h2 : u ∣ x := Nat.Coprime.dvd_of_dvd_mul_right (show Nat.Coprime u v from hc2) (by rw [hxv]; exact Nat.dvd_mul_right ..)
  have hxu : x = u := Nat.dvd_antisymm h1 h2
  have h3 : y ∣ v := Nat.Coprime.dvd_of_dvd_mul_left (show Nat.Coprime y x from (Nat.gcd_comm ..).trans hc) (by rw [hxv]; exact Nat.dvd_mul_left ..)
  have h4 : v ∣ y := Nat.Coprime.dvd_of_dvd_mul_left (show Nat.Coprime v u from (Nat.gcd_comm ..).trans hc2) (by rw [← hxv]; exact Nat.dvd_mul_left ..)
  have hyv : y = v := Nat.dvd_antisymm h3 h4
  rw [hxu, hyv, hu, hvv]

theorem div_dvd_left {S a g : Nat} (ha : a ∣ S) (hg : g ∣ a) : S / a ∣ S / g := by
  refine Nat.dvd_div_of_mul_dvd ?_
  have := Nat.mul_dvd_mul_right hg (S / a)
  rwa [Nat.mul_div_cancel' ha] at this

/-- Parts of a sum: what they have in common, turned round. -/
theorem lcm_parts {S a b : Nat} (hS : 0 < S) (ha : a ∣ S) (hb : b ∣ S) : Nat.lcm (S / a) (S / b) = S / Nat.gcd a b := by
  have ha0 : 0 < a := Nat.pos_of_dvd_of_pos ha hS
  have hb0 : 0 < b := Nat.pos_of_dvd_of_pos hb hS
  have hg : 0 < Nat.gcd a b := Nat.gcd_pos_of_pos_left _ ha0
  refine Nat.dvd_antisymm (Nat.lcm_dvd ?_ ?_) ?_
  · exact div_dvd_left ha (Nat.gcd_dvd_left a b)
  · exact div_dvd_left hb (Nat.gcd_dvd_right a b)
  · -- S ∣ L a and S ∣ L b, so S ∣ L gcd
    obtain ⟨L, hL⟩ : ∃ L, L = Nat.lcm (S / a) (S / b) := ⟨_, rfl⟩
    rw [← hL]
    have d1 : S ∣ L * a := by
      have := Nat.mul_dvd_mul_right (show S / a ∣ L by rw [hL]; exact Nat.dvd_lcm_left ..) a
      rwa [Nat.div_mul_cancel ha] at this
    have d2 : S ∣ L * b := by
      have := Nat.mul_dvd_mul_right (show S / b ∣ L by rw [hL]; exact Nat.dvd_lcm_right ..) b
      rwa [Nat.div_mul_cancel hb] at this
    have d3 : S ∣ L * Nat.gcd a b := by
      rw [← Nat.gcd_mul_left]
      exact Nat.dvd_gcd d1 d2
    have hgS : Nat.gcd a b ∣ S := Nat.dvd_trans (Nat.gcd_dvd_left a b) ha
    exact (Nat.div_dvd_iff_dvd_mul hgS hg).2 (by rw [Nat.mul_comm]; exact d3)

/-- What numbers have in common, with another one. -/
def gcdF (S : Nat) (l : List Nat) : Nat := l.foldl Nat.gcd S

theorem gcdF_dvd : ∀ {l : List Nat} {S : Nat}, gcdF S l ∣ S ∧ ∀ u ∈ l, gcdF S l ∣ u
  | [], S => ⟨Nat.dvd_refl _, fun u hu => by cases hu⟩
  | a :: l, S => by
    obtain ⟨h1, h2⟩ := gcdF_dvd (l := l) (S := Nat.gcd S a)
    refine ⟨Nat.dvd_trans h1 (Nat.gcd_dvd_left S a), fun u hu => ?_⟩
    rcases List.mem_cons.1 hu with rfl | hu
    · exact Nat.dvd_trans h1 (Nat.gcd_dvd_right S u)
    · exact h2 u hu

theorem dvd_gcdF {d : Nat} : ∀ {l : List Nat} {S : Nat}, d ∣ S → (∀ u ∈ l, d ∣ u) → d ∣ gcdF S l
  | [], S, h, _ => h
  | a :: l, S, h, hl => dvd_gcdF (l := l) (S := Nat.gcd S a) (Nat.dvd_gcd h (hl a List.mem_cons_self)) fun u hu => hl u (List.mem_cons_of_mem _ hu)

theorem sum_dvd {d : Nat} : ∀ {l : List Nat}, (∀ u ∈ l, d ∣ u) → d ∣ l.sum
  | [], _ => Nat.dvd_zero _
  | a :: l, h => by
    rw [List.sum_cons]
    exact Nat.dvd_add (h a List.mem_cons_self) (sum_dvd fun u hu => h u (List.mem_cons_of_mem _ hu))

/-- With the sum, or without it. -/
theorem gcdF_sum {l : List Nat} : gcdF l.sum l = gcdF 0 l := by
  refine Nat.dvd_antisymm (dvd_gcdF (Nat.dvd_zero _) gcdF_dvd.2) (dvd_gcdF (sum_dvd gcdF_dvd.2) gcdF_dvd.2)

/-- The least common number of all parts' second ones. -/
theorem lcm_all {S : Nat} (hS : 0 < S) : ∀ {l : List Nat} {g : Nat}, g ∣ S → (l.map fun u => S / Nat.gcd u S).foldl Nat.lcm (S / g) = S / gcdF g l
  | [], _, _ => rfl
  | u :: l, g, hg => by
    simp only [List.map_cons, List.foldl_cons]
    rw [lcm_parts hS hg (Nat.gcd_dvd_right u S)]
    have e : Nat.gcd g (Nat.gcd u S) = Nat.gcd g u := by
      rw [Nat.gcd_comm u S, ← Nat.gcd_assoc, Nat.gcd_eq_left hg]
    rw [e]
    exact lcm_all hS (Nat.dvd_trans (Nat.gcd_dvd_left g u) hg)

/-- A part times that number. -/
theorem up_part {S u g : Nat} (hS : 0 < S) (hg : g ∣ S) (hgu : g ∣ u) : (lowP u S).1 * (S / g) / (lowP u S).2 = u / g := by
  have hg0 : 0 < g := Nat.pos_of_dvd_of_pos hg hS
  have hl := low_pos (a := u) hS
  have hv := low_val (a := u) (b := S)
  refine Nat.div_eq_of_eq_mul_left hl ?_
  have e : g * ((lowP u S).1 * (S / g)) = g * (u / g * (lowP u S).2) := by
    rw [Nat.mul_left_comm, Nat.mul_div_cancel' hg, hv, ← Nat.mul_assoc, Nat.mul_div_cancel' hgu]
  exact Nat.eq_of_mul_eq_mul_left hg0 e
end Go.Tom
