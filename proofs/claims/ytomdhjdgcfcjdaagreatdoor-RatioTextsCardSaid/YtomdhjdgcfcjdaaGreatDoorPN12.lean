/- The program's quotients, all. -/
import Derived.Test.YtomdhjdgcfcjdaaGreatDoorPN11
set_option linter.unusedVariables false
set_option linter.unusedSimpArgs false
namespace Go.Tom
open Go

/-- A number shifted so that its top digit is at least half of the base. -/
theorem shift_top {y n s : Nat} (hn : (d32 y).length = n + 1) (hs : s < 32) (hlo : 2147483648 ≤ dgt 4294967296 y n * 2 ^ s) (hhi : dgt 4294967296 y n * 2 ^ s < 4294967296) :
    (d32 (y * 2 ^ s)).length = n + 1 ∧ 4294967296 ≤ 2 * dgt 4294967296 (y * 2 ^ s) n := by
  have hyl : y < 4294967296 ^ (n + 1) := by rw [← hn]; exact dg_lt b32
  obtain ⟨v, hv⟩ : ∃ v, v = dgt 4294967296 y n := ⟨_, rfl⟩
  have hvy : y / 4294967296 ^ n = v := by
    rw [hv]; unfold dgt
    refine (Nat.mod_eq_of_lt ?_).symm
    rw [Nat.pow_succ] at hyl
    exact Nat.div_lt_of_lt_mul hyl
  obtain ⟨P, hP⟩ : ∃ P, P = 4294967296 ^ n := ⟨_, rfl⟩
  have hPp : 0 < P := by rw [hP]; exact Nat.pow_pos (by omega)
  obtain ⟨S, hS⟩ : ∃ S, S = 2 ^ s := ⟨_, rfl⟩
  have hSp : 0 < S := by rw [hS]; exact Nat.pow_pos (by omega)
  have e : 4294967296 = S * 2 ^ (32 - s) := by rw [hS, ← Nat.pow_add, show s + (32 - s) = 32 from by omega]
  rw [← hv, ← hS] at hlo hhi
  rw [← hS]
  rw [← hP] at hvy
  have h1 : P * v ≤ y := by rw [← hvy]; exact Nat.mul_div_le ..
  have h2 : y < P * (v + 1) := by rw [← hvy]; exact Nat.lt_mul_div_succ y hPp
  have hvS : (v + 1) * S ≤ 4294967296 := by
    have : v < 2 ^ (32 - s) := by
      rcases Nat.lt_or_ge v (2 ^ (32 - s)) with h | h
      · exact h
      · have := Nat.mul_le_mul_right S h
        rw [Nat.mul_comm _ S, ← e] at this
        omega
    have := Nat.mul_le_mul_right S this
    rw [Nat.mul_comm (2 ^ (32 - s)) S, ← e] at this
    exact this
  have k1 : P * (v * S) ≤ y * S := by rw [← Nat.mul_assoc]; exact Nat.mul_le_mul_right _ h1
  have k2 : y * S < P * 4294967296 := by
    have : y * S < P * (v + 1) * S := Nat.mul_lt_mul_of_pos_right h2 hSp
    rw [Nat.mul_assoc] at this
    exact Nat.lt_of_lt_of_le this (Nat.mul_le_mul_left _ hvS)
  have hdiv : y * S / P < 4294967296 := Nat.div_lt_of_lt_mul k2
  have hge : v * S ≤ y * S / P := (Nat.le_div_iff_mul_le hPp).2 (by rw [Nat.mul_comm]; exact k1)
  have hd : dgt 4294967296 (y * S) n = y * S / P := by
    unfold dgt; rw [← hP]; exact Nat.mod_eq_of_lt hdiv
  refine ⟨?_, by rw [hd]; omega⟩
  refine Nat.le_antisymm (dg_len b32 (by rw [Nat.pow_succ, ← hP]; exact k2)) ?_
  rcases Nat.lt_or_ge n (d32 (y * S)).length with h | h
  · exact h
  · exfalso
    have h3 : y * S < P := by
      rw [hP]
      exact Nat.lt_of_lt_of_le (dg_lt b32) (Nat.pow_le_pow_right (by omega) (show (dg 4294967296 (y * S)).length ≤ n from h))
    rw [Nat.div_eq_of_lt h3] at hge
    omega

theorem nat_Div_eq {x y : Nat} (hx : (d32 x).length ≤ 2000000) (hy : (d32 y).length ≤ 2000000) (hy0 : 0 < y) : nat_Div (d32 x) (d32 y) = some (d32 (x / y), d32 (x % y), true) := by
  rw [← Tot.eq_iff]
  have hyl : (d32 y).length ≠ 0 := fun hc => by have := d32_nil hc; omega
  simp only [nat_Div, nat_Cut_d32 (x := x) (by omega), nat_Cut_d32 (x := y) (by omega), nat_Cmp_eq (x := x) (y := y) (by omega) (by omega), Option.bind_some]
  have e0 : (((d32 y).length : Int) == 0) = false := by simp; exact fun hc => hyl (by rw [hc]; rfl)
  rw [e0, cond_false]
  by_cases hxy : x < y
  · have e1 : decide (cmpN x y < 0) = true := by simp [cmpN, hxy]
    rw [e1, cond_true, Nat.div_eq_of_lt hxy, Nat.mod_eq_of_lt hxy, d32_zero]
    exact Tot.some_iff.2 rfl
  have e1 : decide (cmpN x y < 0) = false := by
    unfold cmpN; rw [if_neg hxy]; split <;> simp
  rw [e1, cond_false]
  by_cases h1 : (d32 y).length = 1
  · have e2 : (((d32 y).length : Int) == 1) = true := by rw [h1]; rfl
    have hyb : y < 4294967296 := by
      have : y < 4294967296 ^ (d32 y).length := dg_lt b32
      rw [h1] at this
      simpa using this
    have hr : rd 0 (d32 y) ((0 : Nat) : Int) = (y : Int) := by
      rw [rd_dgt b32]; unfold dgt
      rw [Nat.pow_zero, Nat.div_one, Nat.mod_eq_of_lt hyb]
    have hr' : rd 0 (d32 y) 0 = (y : Int) := hr
    have hmod := Nat.mod_lt x hy0
    have hw : IntKind.u64.wrap ((x % y : Nat) : Int) = ((x % y : Nat) : Int) := by
      generalize x % y = r at hmod ⊢
      exact u64i (by omega) (by omega)
    rw [e2, cond_true]
    simp only [hr', nat_short_eq (x := x) (by omega) hy0 hyb, Option.bind_some, hw, nat_Of_eq (n := x % y) (by generalize x % y = r at hmod ⊢; omega), Tot.ass_iff, Tot.some_iff]
    exact ⟨⟨by omega, by omega⟩, trivial⟩
  have e2 : (((d32 y).length : Int) == 1) = false := by simp; omega
  rw [e2, cond_false]
  obtain ⟨n, hn⟩ : ∃ n, (d32 y).length = n + 1 := ⟨(d32 y).length - 1, by omega⟩
  obtain ⟨m, hm⟩ : ∃ m, m = (d32 x).length := ⟨_, rfl⟩
  have hnm : n + 1 ≤ m := by rw [← hn, hm]; exact d32_mono (by omega)
  have htop0 : dgt 4294967296 y n ≠ 0 := fun hc => by
    have := dg_top b32 (n := y) (fun h => hyl (by rw [d32, h]; rfl))
    rw [show (dg 4294967296 y).length - 1 = n from by have : (dg 4294967296 y).length = n + 1 := hn; omega, rd_dgt b32, hc] at this
    exact this rfl
  have htl := dgt_lt (B := 4294967296) (x := y) (i := n) (by omega)
  obtain ⟨s, hs, hlead, hlo, hhi⟩ := leading (v := dgt 4294967296 y n) (by omega) htl
  obtain ⟨hVl, hVt⟩ := shift_top hn hs hlo hhi
  obtain ⟨V, hV⟩ : ∃ V, V = y * 2 ^ s := ⟨_, rfl⟩
  rw [← hV] at hVl hVt
  have hSp : 0 < 2 ^ s := Nat.pow_pos (by omega)
  have hS31 : 2 ^ s ≤ 2147483648 := Nat.pow_le_pow_right (show 0 < 2 by omega) (show s ≤ 31 by omega)
  have w1 : IntKind.i64.wrap (((d32 y).length : Int) - 1) = (n : Int) := by rw [w64 (by omega) (by omega)]; omega
  have w2 : IntKind.i64.wrap (((d32 x).length : Int) - ((d32 y).length : Int)) = ((m - (n + 1) : Nat) : Int) := by rw [w64 (by omega) (by omega)]; omega
  have w3 : IntKind.i64.wrap (((m - (n + 1) : Nat) : Int) + 1) = ((m - n : Nat) : Int) := by rw [w64 (by omega) (by omega)]; omega
  have w4 : IntKind.i64.wrap (((m - n : Nat) : Int) - 1) = ((m - n : Nat) : Int) - 1 := w64 (by omega) (by omega)
  simp only [w1, w2, w3, rd_dgt b32, hlead, Option.bind_some, Tot.ass_iff, Tot.bind_iff]
  refine ⟨⟨by omega, by omega⟩, ?_⟩
  refine (nat_shifted_tot (x := x) (by omega) hs).mono fun u hu => ?_
  refine (nat_shifted_tot (x := y) (by omega) hs).mono fun v hv => ?_
  rw [nat_Cut_eq hv.2.1 (by rw [hv.1]; omega), hv.2.2, Int.toNat_natCast, ← hV]
  refine Tot.some_iff.2 ?_
  simp only [Tot.ass_iff, Tot.bnd_iff, Int.toNat_natCast, List.length_replicate, w4]
  refine ⟨⟨by omega, Int.le_refl _, by unfold lim; omega⟩, ?_⟩
  obtain ⟨X, hX⟩ : ∃ X, X = x * 2 ^ s := ⟨_, rfl⟩
  have hV0 : 0 < V := by rw [hV]; exact Nat.mul_pos hy0 hSp
  have hstart : X < V * 4294967296 ^ (m - n) := by
    have h1 : x < 4294967296 ^ m := by rw [hm]; exact dg_lt b32
    have h2 : X < 4294967296 ^ m * 2147483648 := by
      rw [hX]
      exact Nat.lt_of_lt_of_le (Nat.mul_lt_mul_of_pos_right h1 hSp) (Nat.mul_le_mul_left _ hS31)
    have h3 : 4294967296 ^ n * 2147483648 ≤ V := by
      have : dgt 4294967296 V n ≤ V / 4294967296 ^ n := Nat.mod_le ..
      have h4 : 2147483648 ≤ V / 4294967296 ^ n := by omega
      have := (Nat.le_div_iff_mul_le (Nat.pow_pos (by omega))).1 h4
      rwa [Nat.mul_comm] at this
    have h4 := Nat.mul_le_mul_right (4294967296 ^ (m - n)) h3
    have h5 : 4294967296 ^ m = 4294967296 ^ n * 4294967296 ^ (m - n) := by rw [← Nat.pow_add, show n + (m - n) = m from by omega]
    rw [h5] at h2
    have h6 : 4294967296 ^ n * 2147483648 * 4294967296 ^ (m - n) = 4294967296 ^ n * 4294967296 ^ (m - n) * 2147483648 := Nat.mul_right_comm ..
    omega
  refine Tot.loop (fun z => ∃ (k U Q : Nat), z.2.2 = (k : Int) - 1 ∧ k ≤ m - n ∧ z.1.length = m + 1 ∧ Dg 4294967296 z.1 ∧ vl 4294967296 z.1 = (U : Int) ∧ z.2.1.length = m - n ∧ Dg 4294967296 z.2.1 ∧ vl 4294967296 z.2.1 = (Q : Int) ∧ U + V * Q = X ∧ U < V * 4294967296 ^ k ∧ ∀ j : Nat, j < k → rd 0 z.2.1 (j : Int) = 0)
    (fun z => (z.2.2 + 1).toNat) (fun z hz => ?_) ⟨m - n, X, 0, rfl, Nat.le_refl _, by rw [hm]; exact hu.1, hu.2.1, by rw [hX]; exact hu.2.2, List.length_replicate, Dg.rep (by omega), by rw [vl_rep]; rfl, by omega, hstart, fun j _ => rd_rep0 _⟩
  obtain ⟨ul, q, i0⟩ := z
  obtain ⟨k, U, Q, z1, z2, z3, z4, z5, z6, z7, z8, z9, z10, z11⟩ := hz
  simp only at z1 z3 z4 z5 z6 z7 z8 z11
  subst z1
  rcases Nat.eq_zero_or_pos k with hk | hk
  · subst hk
    rw [Nat.pow_zero, Nat.mul_one] at z10
    have hc : decide (((0 : Nat) : Int) - 1 ≥ 0) = false := by decide
    have hQ : Q = x / y := by
      have : (U + V * Q) / V = Q := by rw [Nat.add_mul_div_left _ _ hV0, Nat.div_eq_of_lt z10]; omega
      rw [z9, hX, hV, Nat.mul_div_mul_right _ _ hSp] at this
      exact this.symm
    have hU2 : U / 2 ^ s = x % y := by
      have : (U + V * Q) % V = U := by rw [Nat.add_mul_mod_self_left, Nat.mod_eq_of_lt z10]
      rw [z9, hX, hV, Nat.mul_mod_mul_right] at this
      rw [← this, Nat.mul_div_cancel _ hSp]
    have hdown := nat_down_eq z4 z5 (by omega) hs
    rw [hU2] at hdown
    have hcut : nat_Cut q = some (d32 (x / y)) := by rw [nat_Cut_eq z7 (by omega), z8, Int.toNat_natCast, hQ]
    simp only [nat_Div_b1, nat_Div_j1, hc, cond_false, hcut, hdown, Option.bind_some, Option.map_some, Tot.some_iff]
    exact Nx.inr_iff.2 rfl
  · obtain ⟨i, rfl⟩ : ∃ i, k = i + 1 := ⟨k - 1, by omega⟩
    have hi1 : (((i + 1 : Nat) : Int) - 1) = (i : Int) := by omega
    simp only [hi1]
    refine (div_step (s := s) (q := q) z4 z5 hVl (by omega) (by rw [show n + 1 - 1 = n from rfl]; exact hVt) (by omega) (by omega) z10 (by omega) (by omega)).mono fun r hr => ?_
    obtain ⟨u', rfl, r1, r2, r3, r4⟩ := hr
    obtain ⟨D, hD⟩ : ∃ D, D = U / 4294967296 ^ i / V := ⟨_, rfl⟩
    rw [← hD] at r3 r4 ⊢
    have hPp : 0 < 4294967296 ^ i := Nat.pow_pos (by omega)
    have hDV : D * V ≤ U / 4294967296 ^ i := by rw [hD]; exact Nat.div_mul_le_self ..
    have hDV2 : U / 4294967296 ^ i < V * (D + 1) := by rw [hD]; exact Nat.lt_mul_div_succ _ hV0
    have hPU : 4294967296 ^ i * (D * V) ≤ U := Nat.le_trans (Nat.mul_le_mul_left _ hDV) (Nat.mul_div_le ..)
    have hU' : U - 4294967296 ^ i * (D * V) < V * 4294967296 ^ i := by
      have h1 : U < 4294967296 ^ i * (U / 4294967296 ^ i + 1) := Nat.lt_mul_div_succ U hPp
      have h2 : 4294967296 ^ i * (U / 4294967296 ^ i + 1) ≤ 4294967296 ^ i * (V * (D + 1)) := Nat.mul_le_mul_left _ hDV2
      have h3 : 4294967296 ^ i * (V * (D + 1)) = 4294967296 ^ i * (D * V) + V * 4294967296 ^ i := by
        rw [Nat.mul_add_one, Nat.mul_add, Nat.mul_comm V D, Nat.mul_comm V (4294967296 ^ i)]
      omega
    refine Nx.inl_iff.2 ⟨⟨i, U - 4294967296 ^ i * (D * V), Q + 4294967296 ^ i * D, rfl, by omega, by rw [r1]; exact z3, r2, r3, by rw [wr_length]; exact z6, z7.wr (Int.natCast_nonneg _) (by omega), ?_, ?_, hU', fun j hj => ?_⟩, by simp only; omega⟩
    · simp only
      rw [vl_wr (by omega), z11 i (by omega), z8]
      simp only [Int.natCast_add, Int.natCast_mul]
      rw [Int.sub_zero]
    · rw [Nat.mul_add, show V * (4294967296 ^ i * D) = 4294967296 ^ i * (D * V) from by rw [Nat.mul_comm D V, Nat.mul_left_comm]]
      generalize 4294967296 ^ i * (D * V) = T at hPU ⊢
      generalize V * Q = T2 at z9 ⊢
      omega
    · simp only
      rw [rd_wr (by omega) (by omega) (by omega), if_neg (by omega)]
      exact z11 j (by omega)
end Go.Tom
