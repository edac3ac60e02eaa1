/- The program's products; quotients by one digit. -/
import Derived.Test.YtomdhjdgcfcjdaaGreatDoorPN5
set_option linter.unusedVariables false
set_option linter.unusedSimpArgs false
namespace Go.Tom
open Go

theorem mul_digits {a b : Int} (a0 : 0 ≤ a) (a1 : a < 4294967296) (b0 : 0 ≤ b) (b1 : b < 4294967296) : 0 ≤ a * b ∧ a * b ≤ 18446744065119617025 := by
  refine ⟨Int.mul_nonneg a0 b0, ?_⟩
  have h1 : a * b ≤ 4294967295 * b := Int.mul_le_mul_of_nonneg_right (by omega) b0
  omega

theorem rd_len {l : List Int} {i : Int} (h : (l.length : Int) ≤ i) : rd 0 l i = 0 := by
  unfold rd
  rw [List.getD_eq_getElem?_getD, List.getElem?_eq_none (by omega)]
  rfl

theorem nat_times_is {va vb : List Int} {x y : Nat} (iva : Is va x) (ivb : Is vb y) (hx : va.length ≤ 3000000) (hy : vb.length ≤ 3000000) : nat_times va vb = some (d32 (x * y)) := by
  obtain ⟨m, hm⟩ : ∃ m, m = va.length := ⟨_, rfl⟩
  obtain ⟨n, hn⟩ : ∃ n, n = vb.length := ⟨_, rfl⟩
  have hmx : (Tom.d32 x).length ≤ m := by have := iva.len; omega
  have hny : (Tom.d32 y).length ≤ n := by have := ivb.len; omega
  have inner : ∀ (i : Nat) (l : List Int), i < m → l.length = m + n → Dg 4294967296 l → vl 4294967296 l = (((x % 4294967296 ^ i) * y : Nat) : Int) → (∀ j : Nat, i + n ≤ j → rd 0 l (j : Int) = 0) →
      Tot (loopM (fun z : (List Int) × Int × Int => nat_times_b2 vb (i : Int) ((dgt 4294967296 x i : Nat) : Int) z.1 z.2.1 z.2.2) (l, (0 : Int), (0 : Int)))
        (fun r => ∃ l', r = .inl (l', (i : Int) + 1) ∧ l'.length = m + n ∧ Dg 4294967296 l' ∧ vl 4294967296 l' = (((x % 4294967296 ^ (i + 1)) * y : Nat) : Int) ∧ ∀ j : Nat, i + 1 + n ≤ j → rd 0 l' (j : Int) = 0) := by
    intro i l hi hl hd hv hz
    have hdx := dgt_lt (B := 4294967296) (x := x) (i := i) (by omega)
    have hw0 : IntKind.i64.wrap ((i : Int) + 1) = (i : Int) + 1 := w64 (by omega) (by omega)
    have hwn : IntKind.i64.wrap ((i : Int) + (vb.length : Int)) = ((i + n : Nat) : Int) := by rw [w64 (by omega) (by omega)]; omega
    refine Tot.loop (fun s => ∃ k : Nat, s.2.2 = (k : Int) ∧ k ≤ n ∧ s.1.length = m + n ∧ Dg 4294967296 s.1 ∧ 0 ≤ s.2.1 ∧ s.2.1 < 4294967296 ∧ vl 4294967296 s.1 + s.2.1 * ((4294967296 ^ (i + k) : Nat) : Int) = (((x % 4294967296 ^ i) * y : Nat) : Int) + ((4294967296 ^ i * (dgt 4294967296 x i * (y % 4294967296 ^ k)) : Nat) : Int) ∧ ∀ j : Nat, i + n ≤ j → rd 0 s.1 (j : Int) = 0)
      (fun s => ((n : Int) - s.2.2).toNat) (fun s hs => ?_) ⟨0, rfl, by omega, hl, hd, by simp, by simp, by simp [hv, Nat.mod_one], hz⟩
    obtain ⟨l, o, k0⟩ := s
    obtain ⟨k, h1, h2, h3, h4, h5, h6, h7, h8⟩ := hs
    simp only at h1 h3 h4 h5 h6 h7 h8
    subst h1
    obtain ⟨a, ha⟩ : ∃ a : Int, a = ((dgt 4294967296 x i : Nat) : Int) := ⟨_, rfl⟩
    obtain ⟨b, hb⟩ : ∃ b : Int, b = ((dgt 4294967296 y k : Nat) : Int) := ⟨_, rfl⟩
    have hdy := dgt_lt (B := 4294967296) (x := y) (i := k) (by omega)
    have hik : IntKind.i64.wrap ((i : Int) + (k : Int)) = ((i + k : Nat) : Int) := by rw [w64 (by omega) (by omega)]; omega
    obtain ⟨c, hc'⟩ : ∃ c : Int, c = rd 0 l ((i + k : Nat) : Int) := ⟨_, rfl⟩
    have hcb := h4.rd (by omega) ((i + k : Nat) : Int)
    rw [← hc'] at hcb
    have hp := mul_digits (a := a) (b := b) (by omega) (by omega) (by omega) (by omega)
    have hw1 : IntKind.u64.wrap a = a := u64i (by omega) (by omega)
    have hw2 : IntKind.u64.wrap b = b := u64i (by omega) (by omega)
    have hw3 : IntKind.u64.wrap (a * b) = a * b := u64i (by omega) (by omega)
    have hw4 : IntKind.u64.wrap c = c := u64i (by omega) (by omega)
    have hw5 : IntKind.u64.wrap (a * b + c) = a * b + c := u64i (by omega) (by omega)
    have hw6 : IntKind.u64.wrap (o + (a * b + c)) = o + (a * b + c) := u64i (by omega) (by omega)
    have hw7 : IntKind.i64.wrap ((k : Int) + 1) = (k : Int) + 1 := w64 (by omega) (by omega)
    simp only [nat_times_b2, nat_times_j3, nat_times_j2, iva.rd, ivb.rd, hik, ← ha, ← hb, ← hc', hw1, hw2, hw3, hw4, hw5, hw6, hw7, hw0, hwn, fd32, u32m, cond_some, Tot.cond_iff, Tot.ass_iff, Tot.bnd_iff, Tot.some_iff, Tot.map_iff, Tot.bind_iff, Nx.inl_iff, Nx.inr_iff, decide_eq_true_eq, decide_eq_false_iff_not]
    refine ⟨fun hk => ⟨⟨by omega, hk⟩, ⟨by omega, by omega⟩, ⟨by omega, by omega⟩, by omega, ⟨k + 1, by simp, by omega, by rw [wr_length]; exact h3, h4.wr (by omega) (by omega), by omega, by omega, ?_, fun j hj => ?_⟩, by omega⟩, fun hk => ⟨⟨by omega, by omega⟩, ?_⟩⟩
    · rw [vl_wr (by omega), ← hc', mod_up, show i + (k + 1) = (i + k) + 1 from by omega, Nat.pow_succ 4294967296 (i + k), Nat.pow_add]
      rw [Nat.pow_add] at h7
      simp only [Int.natCast_add, Int.natCast_mul, ← ha, ← hb] at h7 ⊢
      generalize ((4294967296 ^ i : Nat) : Int) = M at h7 ⊢
      generalize ((4294967296 ^ k : Nat) : Int) = K at h7 ⊢
      rw [show ((4294967296 : Nat) : Int) = 4294967296 from rfl]
      have hs : (o + (a * b + c)) % 4294967296 = (o + (a * b + c)) - 4294967296 * ((o + (a * b + c)) / 4294967296) := by omega
      rw [hs]
      generalize (o + (a * b + c)) / 4294967296 = q
      grind
    · rw [rd_wr (by omega) (by omega) (by omega), if_neg (by omega)]
      exact h8 j hj
    · have hkn : k = n := by omega
      subst hkn
      rw [dg_mod_len b32 hny] at h7
      refine ⟨_, rfl, by rw [wr_length]; exact h3, h4.wr (by omega) (by omega), ?_, fun j hj => ?_⟩
      · rw [vl_wr (by omega), h8 (i + k) (Nat.le_refl _), mod_up, Nat.add_mul]
        rw [show o % 4294967296 = o from by omega]
        simp only [Int.natCast_add, Int.natCast_mul] at h7 ⊢
        generalize ((4294967296 ^ (i + k) : Nat) : Int) = M at h7 ⊢
        grind
      · rw [rd_wr (by omega) (by omega) (by omega), if_neg (by omega)]
        exact h8 j (by omega)
  rw [← Tot.eq_iff]
  have hw1 : IntKind.i64.wrap ((va.length : Int) + (vb.length : Int)) = ((m + n : Nat) : Int) := by rw [w64 (by omega) (by omega)]; omega
  simp only [nat_times, hw1, cond_some, Tot.cond_iff, Tot.ass_iff, Tot.bnd_iff, Tot.some_iff, Tot.map_iff, Tot.bind_iff, Nx.inl_iff, Nx.inr_iff, decide_eq_true_eq, decide_eq_false_iff_not]
  refine ⟨⟨by omega, Int.le_refl _, by unfold lim; omega⟩, ?_⟩
  refine Tot.loop (fun s => ∃ i : Nat, s.2 = (i : Int) ∧ i ≤ m ∧ s.1.length = m + n ∧ Dg 4294967296 s.1 ∧ vl 4294967296 s.1 = (((x % 4294967296 ^ i) * y : Nat) : Int) ∧ ∀ j : Nat, i + n ≤ j → rd 0 s.1 (j : Int) = 0)
    (fun s => ((m : Int) - s.2).toNat) (fun s hs => ?_) ⟨0, rfl, by omega, by rw [List.length_replicate]; omega, Dg.rep (by omega), by simp [vl_rep, Nat.mod_one], fun j _ => by simp [rd, List.getD_eq_getElem?_getD, List.getElem?_replicate]; split <;> rfl⟩
  obtain ⟨l, i0⟩ := s
  obtain ⟨i, h1, h2, h3, h4, h5, h6⟩ := hs
  simp only at h1 h3 h4 h5 h6
  subst h1
  simp only [nat_times_b1, nat_times_j1, iva.rd, ivb.rd, cond_some, Tot.cond_iff, Tot.ass_iff, Tot.bnd_iff, Tot.some_iff, Tot.map_iff, Tot.bind_iff, Nx.inl_iff, Nx.inr_iff, decide_eq_true_eq, decide_eq_false_iff_not]
  refine ⟨fun hc => ⟨⟨by omega, hc⟩, ?_⟩, fun hc => ?_⟩
  · refine (inner i l (by omega) h3 h4 h5 h6).mono fun r hr => ?_
    obtain ⟨l', rfl, k1, k2, k3, k4⟩ := hr
    exact ⟨⟨i + 1, by simp, by omega, k1, k2, k3, k4⟩, by simp only; omega⟩
  · have hi : i = m := by omega
    rw [nat_Cut_eq h4 (by omega)]
    rw [dg_mod_len (x := x) (k := i) b32 (show (Tom.d32 x).length ≤ i by omega)] at h5
    refine Tot.some_iff.2 ?_
    rw [h5, Int.toNat_natCast]

theorem nat_times_eq {x y : Nat} (hx : (d32 x).length ≤ 3000000) (hy : (d32 y).length ≤ 3000000) : nat_times (d32 x) (d32 y) = some (d32 (x * y)) := nat_times_is (Is.d32 x) (Is.d32 y) hx hy

theorem d32_mul (x y : Nat) : (d32 (x * y)).length ≤ (d32 x).length + (d32 y).length := dg_len b32 (by
  rw [Nat.pow_add]
  exact Nat.mul_lt_mul'' (dg_lt b32) (dg_lt b32))

theorem d32_add (x y : Nat) : (d32 (x + y)).length ≤ max (d32 x).length (d32 y).length + 1 := dg_len b32 (by
  have h1 : x < 4294967296 ^ max (d32 x).length (d32 y).length := Nat.lt_of_lt_of_le (dg_lt b32) (Nat.pow_le_pow_right (by omega) (Nat.le_max_left ..))
  have h2 : y < 4294967296 ^ max (d32 x).length (d32 y).length := Nat.lt_of_lt_of_le (dg_lt b32) (Nat.pow_le_pow_right (by omega) (Nat.le_max_right ..))
  rw [Nat.pow_succ]
  generalize 4294967296 ^ max (d32 x).length (d32 y).length = M at h1 h2 ⊢
  omega)

/-- Products of two. -/
theorem nat_Mul_two {x y : Nat} (hx : (d32 x).length ≤ 2000000) (hy : (d32 y).length ≤ 2000000) : nat_Mul [d32 x, d32 y] = some (d32 (x * y)) := by
  rw [← Tot.eq_iff]
  have h1 : nat_Of (1 : Int) = some (d32 1) := nat_Of_eq (n := 1) (by omega)
  have hl1 : (d32 1).length ≤ 1 := dg_len b32 (by omega)
  simp only [nat_Mul, h1, Option.bind_some]
  refine Tot.loop (fun s => s = (d32 1, 0) ∨ s = (d32 x, 1) ∨ s = (d32 (x * y), 2)) (fun s => ((2 : Int) - s.2).toNat) (fun s hs => ?_) (.inl rfl)
  have hw1 : IntKind.i64.wrap (1 : Int) = 1 := by decide
  have hw2 : IntKind.i64.wrap (2 : Int) = 2 := by decide
  have r0 : rd ([] : List Int) [d32 x, d32 y] 0 = d32 x := rfl
  have r1 : rd ([] : List Int) [d32 x, d32 y] 1 = d32 y := rfl
  rcases hs with rfl | rfl | rfl
  · have ht : nat_times (d32 1) (d32 x) = some (d32 x) := by rw [nat_times_eq (by omega) (by omega), Nat.one_mul]
    simp [nat_Mul_b1, nat_Mul_j1, r0, ht, hw1, Nx, Tot.some_iff, Tot.ass_iff, Tot.bnd_iff]
  · have ht : nat_times (d32 x) (d32 y) = some (d32 (x * y)) := nat_times_eq (by omega) (by omega)
    simp [nat_Mul_b1, nat_Mul_j1, r1, ht, hw2, Nx, Tot.some_iff, Tot.ass_iff, Tot.bnd_iff]
  · simp [nat_Mul_b1, nat_Mul_j1, Nx, Tot.some_iff]
end Go.Tom
