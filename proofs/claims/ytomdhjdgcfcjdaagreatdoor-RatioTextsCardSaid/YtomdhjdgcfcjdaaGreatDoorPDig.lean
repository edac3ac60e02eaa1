/- Digits: numbers as lists to a base, the lowest first. -/
import Derived.Test.YtomdhjdgcfcjdaaGreatDoorPA
set_option linter.unusedVariables false
set_option linter.unusedSimpArgs false
namespace Go.Tom
open Go

/-- The number of digits. -/
def vl (B : Nat) : List Int → Int
  | [] => 0
  | x :: l => x + (B : Int) * vl B l

/-- These are digits. -/
def Dg (B : Nat) (l : List Int) : Prop := ∀ x ∈ l, 0 ≤ x ∧ x < (B : Int)

/-- A number's digits. -/
def dg (B n : Nat) : List Int := if h : n = 0 ∨ B < 2 then [] else ((n % B : Nat) : Int) :: dg B (n / B)
termination_by n
decreasing_by exact Nat.div_lt_self (by omega) (by omega)

theorem dg_zero {B : Nat} : dg B 0 = [] := by rw [dg, dif_pos (.inl rfl)]
theorem dg_pos {B n : Nat} (hB : 2 ≤ B) (hn : 0 < n) : dg B n = ((n % B : Nat) : Int) :: dg B (n / B) := by rw [dg, dif_neg (by omega)]

theorem Dg.nil {B : Nat} : Dg B [] := fun x hx => by cases hx
theorem Dg.cons {B : Nat} {x : Int} {l : List Int} : Dg B (x :: l) ↔ (0 ≤ x ∧ x < (B : Int)) ∧ Dg B l := by simp [Dg]
theorem Dg.append {B : Nat} {a b : List Int} : Dg B (a ++ b) ↔ Dg B a ∧ Dg B b := by
  simp only [Dg, List.mem_append]
  exact ⟨fun h => ⟨fun x hx => h x (.inl hx), fun x hx => h x (.inr hx)⟩, fun h x hx => hx.elim (h.1 x) (h.2 x)⟩
theorem Dg.take {B : Nat} {l : List Int} (h : Dg B l) (k : Nat) : Dg B (l.take k) := fun x hx => h x (List.mem_of_mem_take hx)
theorem Dg.drop {B : Nat} {l : List Int} (h : Dg B l) (k : Nat) : Dg B (l.drop k) := fun x hx => h x (List.mem_of_mem_drop hx)
theorem Dg.rep {B n : Nat} (hB : 0 < B) : Dg B (List.replicate n 0) := fun x hx => by rw [(List.mem_replicate.1 hx).2]; omega
theorem Dg.set {B : Nat} {l : List Int} (h : Dg B l) {i : Nat} {y : Int} (hy : 0 ≤ y ∧ y < (B : Int)) : Dg B (l.set i y) := fun x hx => by
  rcases List.mem_or_eq_of_mem_set hx with hx | rfl
  · exact h x hx
  · exact hy
theorem Dg.rd {B : Nat} {l : List Int} (h : Dg B l) (hB : 0 < B) (i : Int) : 0 ≤ rd 0 l i ∧ rd 0 l i < (B : Int) := by
  unfold Tom.rd
  rw [List.getD_eq_getElem?_getD]
  cases hg : l[i.toNat]? with
  | none => simp; omega
  | some y => exact h y (List.mem_of_getElem? hg)

theorem dg_Dg {B n : Nat} (hB : 2 ≤ B) : Dg B (dg B n) := by
  induction n using Nat.strongRecOn with
  | _ n ih =>
    by_cases hn : n = 0
    · subst hn; rw [dg_zero]; exact Dg.nil
    · rw [dg_pos hB (by omega), Dg.cons]
      have := Nat.mod_lt n (show 0 < B by omega)
      exact ⟨by omega, ih _ (Nat.div_lt_self (by omega) (by omega))⟩

theorem vl_dg {B n : Nat} (hB : 2 ≤ B) : vl B (dg B n) = (n : Int) := by
  induction n using Nat.strongRecOn with
  | _ n ih =>
    by_cases hn : n = 0
    · subst hn; rw [dg_zero]; rfl
    · rw [dg_pos hB (by omega), vl, ih _ (Nat.div_lt_self (by omega) (by omega))]
      have := Nat.mod_add_div n B
      rw [← Int.natCast_mul, ← Int.natCast_add, this]

theorem vl_append {B : Nat} : ∀ {a b : List Int}, vl B (a ++ b) = vl B a + ((B ^ a.length : Nat) : Int) * vl B b
  | [], b => by simp [vl]
  | x :: a, b => by
    rw [List.cons_append, vl, vl, vl_append, List.length_cons, Nat.pow_succ, Int.natCast_mul, Int.mul_add, Int.add_assoc]
    congr 2
    rw [← Int.mul_assoc, Int.mul_comm (B : Int)]

theorem vl_bound {B : Nat} : ∀ {l : List Int}, Dg B l → 0 ≤ vl B l ∧ vl B l < ((B ^ l.length : Nat) : Int)
  | [], _ => by simp [vl]
  | x :: l, h => by
    obtain ⟨hx, hl⟩ := Dg.cons.1 h
    obtain ⟨h1, h2⟩ := vl_bound hl
    rw [vl, List.length_cons, Nat.pow_succ, Int.natCast_mul]
    have h3 : (0 : Int) ≤ (B : Int) * vl B l := Int.mul_nonneg (by omega) h1
    refine ⟨by omega, ?_⟩
    have h4 : (B : Int) * (vl B l + 1) ≤ (B : Int) * ((B ^ l.length : Nat) : Int) := Int.mul_le_mul_of_nonneg_left (by omega) (by omega)
    rw [Int.mul_add, Int.mul_one] at h4
    rw [Int.mul_comm ((B ^ l.length : Nat) : Int)]
    omega

theorem vl_rep {B n : Nat} : vl B (List.replicate n 0) = 0 := by
  induction n with
  | zero => rfl
  | succ n ih => rw [List.replicate_succ, vl, ih]; simp

theorem vl_split {B : Nat} {l : List Int} (k : Nat) (hk : k ≤ l.length) : vl B l = vl B (l.take k) + ((B ^ k : Nat) : Int) * vl B (l.drop k) := by
  conv => lhs; rw [← List.take_append_drop k l]
  rw [vl_append, List.length_take, Nat.min_eq_left hk]

/-- A digit changed. -/
theorem vl_set {B : Nat} {l : List Int} {k : Nat} {y : Int} (hk : k < l.length) : vl B (l.set k y) = vl B l + ((B ^ k : Nat) : Int) * (y - rd 0 l k) := by
  induction l generalizing k with
  | nil => simp at hk
  | cons x l ih =>
    cases k with
    | zero => simp [vl, rd]; omega
    | succ k =>
      rw [List.set_cons_succ, vl, ih (by simpa using hk), vl, Nat.pow_succ, Int.natCast_mul, Int.mul_add, Int.add_assoc]
      congr 2
      rw [← Int.mul_assoc, Int.mul_comm (B : Int)]
      congr 1

/-- The same digits, if no nought is at the end. -/
theorem dg_of {B : Nat} (hB : 2 ≤ B) : ∀ {l : List Int}, Dg B l → l.getLast? ≠ some 0 → l = dg B (vl B l).toNat
  | [], _, _ => by simp [vl, dg_zero]
  | x :: l, h, hz => by
    obtain ⟨hx, hl⟩ := Dg.cons.1 h
    obtain ⟨h1, h2⟩ := vl_bound hl
    have h3 : (0 : Int) ≤ (B : Int) * vl B l := Int.mul_nonneg (by omega) h1
    have ih := dg_of hB hl (fun hc => by
      apply hz
      cases l with
      | nil => simp at hc
      | cons y l => simpa using hc)
    have hv : ∃ m : Nat, vl B l = m := ⟨(vl B l).toNat, by omega⟩
    obtain ⟨m, hm⟩ := hv
    obtain ⟨d, rfl⟩ : ∃ d : Nat, x = d := ⟨x.toNat, by omega⟩
    rw [hm, Int.toNat_natCast] at ih
    have hpos : 0 < d + B * m := by
      rcases Nat.eq_zero_or_pos (d + B * m) with h0 | h0
      · exfalso
        have hd0 : d = 0 := by omega
        have hm0 : m = 0 := by
          have : B * m = 0 := by omega
          rcases Nat.mul_eq_zero.1 this with h | h
          · omega
          · exact h
        rw [hm0, dg_zero] at ih
        apply hz
        rw [ih, hd0]
        rfl
      · exact h0
    have ht : (vl B ((d : Int) :: l)).toNat = d + B * m := by
      rw [vl, hm]
      rw [← Int.natCast_mul, ← Int.natCast_add, Int.toNat_natCast]
    rw [ht, dg_pos hB hpos]
    have e1 : (d + B * m) % B = d := by rw [Nat.add_mul_mod_self_left]; exact Nat.mod_eq_of_lt (by omega)
    have e2 : (d + B * m) / B = m := by rw [Nat.add_mul_div_left d m (show 0 < B by omega), Nat.div_eq_of_lt (by omega), Nat.zero_add]
    rw [e1, e2, ← ih]

theorem dg_last {B n : Nat} (hB : 2 ≤ B) : (dg B n).getLast? ≠ some 0 := by
  induction n using Nat.strongRecOn with
  | _ n ih =>
    by_cases hn : n = 0
    · subst hn; rw [dg_zero]; simp
    · rw [dg_pos hB (by omega)]
      by_cases hq : n / B = 0
      · rw [hq, dg_zero]
        simp only [List.getLast?_singleton, ne_eq, Option.some.injEq]
        have := Nat.mod_add_div n B
        rw [hq] at this
        omega
      · have := ih (n / B) (Nat.div_lt_self (Nat.pos_of_ne_zero hn) (by omega))
        have he : dg B (n / B) ≠ [] := by rw [dg_pos hB (Nat.pos_of_ne_zero hq)]; simp
        obtain ⟨y, l, hl⟩ := List.exists_cons_of_ne_nil he
        rw [hl] at this ⊢
        simpa using this

theorem dg_inj {B n m : Nat} (hB : 2 ≤ B) : dg B n = dg B m ↔ n = m :=
  ⟨fun h => by have := congrArg (vl B) h; rw [vl_dg hB, vl_dg hB] at this; omega, fun h => by rw [h]⟩

theorem dg_nil {B n : Nat} (hB : 2 ≤ B) : dg B n = [] ↔ n = 0 := by
  rw [show ([] : List Int) = dg B 0 from dg_zero.symm, dg_inj hB]

theorem dg_len {B n k : Nat} (hB : 2 ≤ B) (h : n < B ^ k) : (dg B n).length ≤ k := by
  induction k generalizing n with
  | zero => simp at h; subst h; simp [dg_zero]
  | succ k ih =>
    by_cases hn : n = 0
    · subst hn; simp [dg_zero]
    · rw [dg_pos hB (by omega), List.length_cons]
      have hq : n / B < B ^ k := by
        rw [Nat.pow_succ, Nat.mul_comm] at h
        exact Nat.div_lt_of_lt_mul h
      have := ih hq
      omega

theorem dg_lt {B n : Nat} (hB : 2 ≤ B) : n < B ^ (dg B n).length := by
  have := (vl_bound (dg_Dg hB (n := n))).2
  rw [vl_dg hB] at this
  omega

theorem dg_le {B n : Nat} (hB : 2 ≤ B) (hn : 0 < n) : B ^ ((dg B n).length - 1) ≤ n := by
  rcases Nat.lt_or_ge n (B ^ ((dg B n).length - 1)) with h | h
  · have := dg_len hB h
    have hne : dg B n ≠ [] := fun hc => by rw [dg_nil hB] at hc; omega
    have := List.length_pos_iff.2 hne
    omega
  · exact h

/-- A digit. -/
theorem rd_vl {B : Nat} (hB : 2 ≤ B) {l : List Int} (h : Dg B l) (i : Nat) : rd 0 l i = vl B l / ((B ^ i : Nat) : Int) % (B : Int) := by
  induction l generalizing i with
  | nil => simp [rd, vl]
  | cons x l ih =>
    obtain ⟨hx, hl⟩ := Dg.cons.1 h
    cases i with
    | zero =>
      simp only [vl, Nat.pow_zero, Int.natCast_one, Int.ediv_one, Int.add_mul_emod_self_left]
      rw [Int.emod_eq_of_lt hx.1 hx.2]
      rfl
    | succ i =>
      have := ih hl i
      rw [vl, Nat.pow_succ', Int.natCast_mul, ← Int.ediv_ediv_of_nonneg (by omega), Int.add_mul_ediv_left _ _ (by omega), Int.ediv_eq_zero_of_lt hx.1 hx.2, Int.zero_add, ← this]
      rfl

theorem rd_dg {B n : Nat} (hB : 2 ≤ B) (i : Nat) : rd 0 (dg B n) i = ((n / B ^ i % B : Nat) : Int) := by
  rw [rd_vl hB (dg_Dg hB), vl_dg hB]
  rw [Int.natCast_emod, Int.natCast_ediv]

theorem vl_drop {B : Nat} (hB : 2 ≤ B) {l : List Int} (h : Dg B l) (k : Nat) : vl B (l.drop k) = vl B l / ((B ^ k : Nat) : Int) := by
  rcases Nat.lt_or_ge l.length k with hk | hk
  · rw [List.drop_of_length_le (by omega)]
    obtain ⟨h1, h2⟩ := vl_bound h
    rw [Int.ediv_eq_zero_of_lt h1]
    · rfl
    · have : B ^ l.length ≤ B ^ k := Nat.pow_le_pow_right (by omega) (by omega)
      omega
  · rw [vl_split k hk]
    obtain ⟨h1, h2⟩ := vl_bound (h.take k)
    rw [List.length_take, Nat.min_eq_left hk] at h2
    have hp : 0 < B ^ k := Nat.pow_pos (by omega)
    rw [Int.add_mul_ediv_left _ _ (by omega), Int.ediv_eq_zero_of_lt h1 h2, Int.zero_add]

theorem vl_take {B : Nat} (hB : 2 ≤ B) {l : List Int} (h : Dg B l) (k : Nat) : vl B (l.take k) = vl B l % ((B ^ k : Nat) : Int) := by
  rcases Nat.lt_or_ge l.length k with hk | hk
  · rw [List.take_of_length_le (by omega)]
    obtain ⟨h1, h2⟩ := vl_bound h
    rw [Int.emod_eq_of_lt h1]
    have : B ^ l.length ≤ B ^ k := Nat.pow_le_pow_right (by omega) (by omega)
    omega
  · have := vl_split k hk (B := B)
    rw [vl_drop hB h] at this
    have := Int.emod_add_mul_ediv (vl B l) ((B ^ k : Nat) : Int)
    omega

/-- Without noughts at the end: the digits of the same number. -/
theorem cut_dg {B : Nat} (hB : 2 ≤ B) {l : List Int} (h : Dg B l) {k : Nat} (hk : k ≤ l.length) (hz : ∀ i : Nat, k ≤ i → i < l.length → rd 0 l i = 0) (hl : k = 0 ∨ rd 0 l (k - 1 : Nat) ≠ 0) : l.take k = dg B (vl B l).toNat := by
  have hd : vl B (l.drop k) = 0 := by
    have : l.drop k = List.replicate (l.length - k) 0 := by
      refine List.ext_getElem (by simp) fun i h1 h2 => ?_
      rw [List.getElem_drop, List.getElem_replicate]
      have := hz (k + i) (by omega) (by simp at h1; omega)
      rwa [rd_eq (k + i) rfl (by simp at h1; omega)] at this
    rw [this, vl_rep]
  have hv : vl B (l.take k) = vl B l := by rw [vl_split k hk, hd]; simp
  rw [← hv]
  refine dg_of hB (h.take k) ?_
  intro hc
  rcases hl with rfl | hl
  · simp at hc
  · have hk0 : k ≠ 0 := fun h0 => by subst h0; simp at hc
    rw [List.getLast?_eq_getElem?, List.length_take, Nat.min_eq_left hk, List.getElem?_take, if_pos (by omega)] at hc
    apply hl
    rw [rd_eq (k - 1) rfl (by omega)]
    rw [List.getElem?_eq_getElem (by omega)] at hc
    exact Option.some.inj hc
end Go.Tom
