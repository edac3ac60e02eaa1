/- The nearest fraction whose Den is bounded. -/
import Derived.Test.YtomdhjdgcfcjdaaPRt
set_option linter.unusedVariables false
set_option linter.unusedSimpArgs false
namespace Go.Tom
open Go

/-- How far x is from a. -/
def far (a x : Rat) : Rat := if x ≤ a then a - x else x - a
/-- No fraction whose Den is at most that is nearer; one below comes ahead of one above. -/
def NearR (a : Rat) (most : Nat) (x : Rat) : Prop :=
  (∀ n d : Nat, 1 ≤ d → d ≤ most → far a x ≤ far a ((n : Rat) / (d : Rat))) ∧
  (a < x → ∀ n d : Nat, 1 ≤ d → d ≤ most → (n : Rat) / (d : Rat) ≤ a → far a x < far a ((n : Rat) / (d : Rat)))

theorem NearR.uniq {a x y : Rat} {most n d m e : Nat} (hx : NearR a most x) (hy : NearR a most y) (ex : x = (n : Rat) / (d : Rat)) (hd : 1 ≤ d ∧ d ≤ most) (ey : y = (m : Rat) / (e : Rat)) (he : 1 ≤ e ∧ e ≤ most) : x = y := by
  have h1 := hx.1 m e he.1 he.2
  have h2 := hy.1 n d hd.1 hd.2
  rw [← ey] at h1
  rw [← ex] at h2
  by_cases k1 : a < x
  · by_cases k2 : a < y
    · unfold far at h1 h2; grind
    · have := hx.2 k1 m e he.1 he.2 (by rw [← ey]; grind)
      rw [← ey] at this
      grind
  · by_cases k2 : a < y
    · have := hy.2 k2 n d hd.1 hd.2 (by rw [← ex]; grind)
      rw [← ex] at this
      grind
    · unfold far at h1 h2; grind

/-- One step of the document's search. -/
def nearStep (a best : Rat) (n d : Nat) : Rat :=
  let low := (n : Rat) / (d : Rat)
  let b1 := if far a low < far a best ∨ (far a low = far a best ∧ a < best) then low else best
  if far a (((n + 1 : Nat) : Rat) / (d : Rat)) < far a b1 then ((n + 1 : Nat) : Rat) / (d : Rat) else b1

theorem div_mono {m n d : Nat} (hd : 0 < d) (h : m ≤ n) : (m : Rat) / (d : Rat) ≤ (n : Rat) / (d : Rat) := by
  have h1 := ncast_pos hd
  have h2 : (m : Rat) ≤ (n : Rat) := by exact_mod_cast h
  rw [Rat.div_def, Rat.div_def]
  exact Rat.mul_le_mul_of_nonneg_right h2 (Rat.le_of_lt (Rat.inv_pos.2 h1))

theorem near_step {a best : Rat} {k n : Nat} (h : NearR a k best) (hlo : (n : Rat) / ((k + 1 : Nat) : Rat) ≤ a) (hhi : a < ((n + 1 : Nat) : Rat) / ((k + 1 : Nat) : Rat)) : NearR a (k + 1) (nearStep a best n (k + 1)) := by
  have hm : ∀ m : Nat, m ≤ n → (m : Rat) / ((k + 1 : Nat) : Rat) ≤ (n : Rat) / ((k + 1 : Nat) : Rat) := fun m hm => div_mono (by omega) hm
  have hM : ∀ m : Nat, n + 1 ≤ m → ((n + 1 : Nat) : Rat) / ((k + 1 : Nat) : Rat) ≤ (m : Rat) / ((k + 1 : Nat) : Rat) := fun m hm => div_mono (by omega) hm
  obtain ⟨low, hlow⟩ : ∃ low, low = (n : Rat) / ((k + 1 : Nat) : Rat) := ⟨_, rfl⟩
  obtain ⟨high, hhigh⟩ : ∃ high, high = ((n + 1 : Nat) : Rat) / ((k + 1 : Nat) : Rat) := ⟨_, rfl⟩
  obtain ⟨b1, hb1⟩ : ∃ b1, b1 = if far a low < far a best ∨ (far a low = far a best ∧ a < best) then low else best := ⟨_, rfl⟩
  have hst : nearStep a best n (k + 1) = if far a high < far a b1 then high else b1 := by rw [hb1, hhigh, hlow]; rfl
  rw [← hlow] at hlo hm
  rw [← hhigh] at hhi hM
  rw [hst]
  have far1 : far a b1 ≤ far a best ∧ far a b1 ≤ far a low := by rw [hb1]; split <;> grind
  have key : ∀ x : Rat, (x = if far a high < far a b1 then high else b1) → far a x ≤ far a b1 ∧ far a x ≤ far a high := fun x hx => by rw [hx]; split <;> grind
  obtain ⟨x, hx⟩ : ∃ x, x = if far a high < far a b1 then high else b1 := ⟨_, rfl⟩
  rw [← hx]
  obtain ⟨f1, f2⟩ := key x hx
  have hlow1 : ∀ m : Nat, m ≤ n → far a low ≤ far a ((m : Rat) / ((k + 1 : Nat) : Rat)) := fun m h => by
    have := hm m h
    unfold far; grind
  have hhigh1 : ∀ m : Nat, n + 1 ≤ m → far a high ≤ far a ((m : Rat) / ((k + 1 : Nat) : Rat)) := fun m h => by
    have := hM m h
    unfold far; grind
  refine ⟨fun m d h1 h2 => ?_, fun hax m d h1 h2 h3 => ?_⟩
  · by_cases hd : d ≤ k
    · have := h.1 m d h1 hd
      grind
    · obtain rfl : d = k + 1 := by omega
      by_cases hmn : m ≤ n
      · have := hlow1 m hmn; grind
      · have := hhigh1 m (by omega); grind
  · by_cases hc : far a high < far a b1
    · rw [if_pos hc] at hx
      by_cases hd : d ≤ k
      · have := h.1 m d h1 hd
        grind
      · obtain rfl : d = k + 1 := by omega
        by_cases hmn : m ≤ n
        · have := hlow1 m hmn; grind
        · have := hM m (by omega); grind
    · rw [if_neg hc] at hx
      have hnl : ¬ (far a low < far a best ∨ (far a low = far a best ∧ a < best)) := fun hh => by
        rw [if_pos hh] at hb1
        grind
      rw [if_neg hnl] at hb1
      have hab : a < best := by rw [← hb1, ← hx]; exact hax
      by_cases hd : d ≤ k
      · have := h.2 hab m d h1 hd h3
        rw [hx, hb1]; exact this
      · obtain rfl : d = k + 1 := by omega
        by_cases hmn : m ≤ n
        · have := hlow1 m hmn; grind
        · have := hM m (by omega); grind

theorem near_side {a L H x : Rat} (hlo : L ≤ a) (hhi : a ≤ H) (hs : x ≤ L ∨ H ≤ x) : far a (if far a H < far a L then H else L) ≤ far a x ∧ (a < (if far a H < far a L then H else L) → x ≤ a → far a (if far a H < far a L then H else L) < far a x) := by
  unfold far
  constructor
  · grind
  · intro h1 h2
    grind

/-- Neighbours on both sides of a, whose Dens together are above the bound. -/
theorem near_pair {a : Rat} {most l1 l2 h1 h2 : Nat} (hl : 0 < l2) (hh : 0 < h2) (hdet : h1 * l2 = l1 * h2 + 1) (hlo : (l1 : Rat) / (l2 : Rat) ≤ a) (hhi : a ≤ (h1 : Rat) / (h2 : Rat)) (hsum : most < l2 + h2) :
    NearR a most (if far a ((h1 : Rat) / (h2 : Rat)) < far a ((l1 : Rat) / (l2 : Rat)) then (h1 : Rat) / (h2 : Rat) else (l1 : Rat) / (l2 : Rat)) := by
  have side : ∀ n d : Nat, 1 ≤ d → d ≤ most → (n : Rat) / (d : Rat) ≤ (l1 : Rat) / (l2 : Rat) ∨ (h1 : Rat) / (h2 : Rat) ≤ (n : Rat) / (d : Rat) := fun n d hd hm => by
    have hN : n * l2 ≤ l1 * d ∨ h1 * d ≤ n * h2 := by
      rcases Nat.lt_or_ge (l1 * d) (n * l2) with k1 | k1
      · rcases Nat.lt_or_ge (n * h2) (h1 * d) with k2 | k2
        · exfalso
          have e1 : (n * h2 + 1) * l2 ≤ h1 * d * l2 := Nat.mul_le_mul_right _ k2
          have e2 : (l1 * d + 1) * h2 ≤ n * l2 * h2 := Nat.mul_le_mul_right _ k1
          have e3 : h1 * d * l2 = d * (l1 * h2 + 1) := by rw [← hdet, Nat.mul_comm h1 d, Nat.mul_assoc]
          have e4 : (l1 * d + 1) * h2 = d * (l1 * h2) + h2 := by rw [Nat.add_mul, Nat.one_mul, Nat.mul_comm l1 d, Nat.mul_assoc]
          have e5 : (n * h2 + 1) * l2 = n * l2 * h2 + l2 := by rw [Nat.add_mul, Nat.one_mul, Nat.mul_assoc, Nat.mul_comm h2 l2, ← Nat.mul_assoc]
          have e6 : d * (l1 * h2 + 1) = d * (l1 * h2) + d := by rw [Nat.mul_add, Nat.mul_one]
          omega
        · exact .inr k2
      · exact .inl k1
    have q1 := ncast_pos hl
    have q2 := ncast_pos hh
    have q3 := ncast_pos hd
    rcases hN with hN | hN
    · left
      have : (n : Rat) * (l2 : Rat) ≤ (l1 : Rat) * (d : Rat) := by exact_mod_cast hN
      apply Rat.not_lt.1
      intro hc
      rw [Rat.div_lt_iff q1] at hc
      have e : (n : Rat) / (d : Rat) * (l2 : Rat) = (n : Rat) * (l2 : Rat) / (d : Rat) := by grind
      rw [e, Rat.lt_div_iff q3] at hc
      grind
    · right
      have : (h1 : Rat) * (d : Rat) ≤ (n : Rat) * (h2 : Rat) := by exact_mod_cast hN
      apply Rat.not_lt.1
      intro hc
      rw [Rat.div_lt_iff q3] at hc
      have e : (h1 : Rat) / (h2 : Rat) * (d : Rat) = (h1 : Rat) * (d : Rat) / (h2 : Rat) := by grind
      rw [e, Rat.lt_div_iff q2] at hc
      grind
  exact ⟨fun n d hd hm => (near_side hlo hhi (side n d hd hm)).1, fun hax n d hd hm hle => (near_side hlo hhi (side n d hd hm)).2 hax hle⟩
end Go.Tom
