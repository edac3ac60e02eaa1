/- The program's quotients: by many digits. -/
import Derived.Test.YtomdhjdgcfcjdaaGreatDoorPN10
set_option linter.unusedVariables false
set_option linter.unusedSimpArgs false
namespace Go.Tom
open Go

theorem d32_nil {x : Nat} (h : (d32 x).length = 0) : x = 0 := (dg_nil b32).1 (List.eq_nil_of_length_eq_zero h)
theorem d32_zero : d32 0 = [] := dg_zero

/-- One digit of a quotient, and what is left. -/
theorem div_step {u q : List Int} {U V n i s : Nat} (hu : Dg 4294967296 u) (hU : vl 4294967296 u = (U : Int)) (hv : (d32 V).length = n) (hn : 2 ≤ n) (htop : 4294967296 ≤ 2 * dgt 4294967296 V (n - 1)) (hj : i + n < u.length) (hlen : u.length ≤ 5000000) (hlt : U < V * 4294967296 ^ (i + 1))
    (hqi : i < q.length) (hq : q.length ≤ 5000000) :
    Tot (nat_Div_b1 (s : Int) (d32 V) u q (i : Int)) (fun r => ∃ u', r = .inl (u', wr q (i : Int) ((U / 4294967296 ^ i / V : Nat) : Int), (i : Int) - 1) ∧ u'.length = u.length ∧ Dg 4294967296 u' ∧ vl 4294967296 u' = ((U - 4294967296 ^ i * (U / 4294967296 ^ i / V * V) : Nat) : Int) ∧ U / 4294967296 ^ i / V < 4294967296) := by
  have hV0 : 0 < V := by
    rcases Nat.eq_zero_or_pos V with h | h
    · rw [h, Nat.zero_mul] at hlt; omega
    · exact h
  obtain ⟨W, hW⟩ : ∃ W, W = U / 4294967296 ^ i := ⟨_, rfl⟩
  obtain ⟨lo, hlo⟩ : ∃ lo, lo = U % 4294967296 ^ i := ⟨_, rfl⟩
  obtain ⟨D, hD⟩ : ∃ D, D = W / V := ⟨_, rfl⟩
  have hPp : 0 < 4294967296 ^ i := Nat.pow_pos (by omega)
  have hUe : U = 4294967296 ^ i * W + lo := by rw [hW, hlo]; exact (Nat.div_add_mod ..).symm
  have hlob : lo < 4294967296 ^ i := by rw [hlo]; exact Nat.mod_lt _ hPp
  have hDV : D * V ≤ W := by rw [hD]; exact Nat.div_mul_le_self ..
  have hDV2 : W < (D + 1) * V := by
    rw [hD]
    have := Nat.lt_mul_div_succ W hV0
    rwa [Nat.mul_comm] at this
  have hVn : V < 4294967296 ^ n := by rw [← hv]; exact dg_lt b32
  have hUn : U < 4294967296 ^ (i + (n + 1)) := by
    refine Nat.lt_of_lt_of_le hlt ?_
    rw [show i + (n + 1) = n + (i + 1) from by omega, Nat.pow_add 4294967296 n]
    exact Nat.mul_le_mul_right _ (Nat.le_of_lt hVn)
  have huz : ∀ k : Nat, i + (n + 1) ≤ k → rd 0 u (k : Int) = 0 := fun k hk => by
    rw [rd_num hu hU]
    unfold dgt
    rw [Nat.div_eq_of_lt (Nat.lt_of_lt_of_le hUn (Nat.pow_le_pow_right (by omega) hk))]
    rfl
  have hBP : 4294967296 ^ i * (D * V) ≤ U := by
    rw [hUe]
    have := Nat.mul_le_mul_left (4294967296 ^ i) hDV
    omega
  have fin : ((U - 4294967296 ^ i * (D * V) : Nat) : Int) = (U : Int) - ((4294967296 ^ i * (D * V) : Nat) : Int) := by omega
  have hc : decide ((i : Int) ≥ 0) = true := by simp
  have w1 : IntKind.i64.wrap ((i : Int) - 1) = (i : Int) - 1 := w64 (by omega) (by omega)
  simp only [nat_Div_b1, hc, cond_true, Tot.bind_iff]
  rw [← hW, ← hD]
  refine (nat_guess_tot hu hU hv hn htop hj hlen hlt).mono fun x19 hx => ?_
  obtain ⟨g, rfl, hg, hg1, hg2⟩ := hx
  rw [← hW, ← hD] at hg1 hg2
  refine (nat_away_tot hu hU hv hj hlen hg).mono fun r hr => ?_
  obtain ⟨flag, ua⟩ := r
  obtain ⟨a1, a2, a3, a4⟩ := hr
  simp only at a1 a2 a3 a4
  have hz := vl_small (by omega) a2 fun k hk => by rw [a4 k hk]; exact huz k hk
  rw [a3] at hz
  have eg : ((4294967296 ^ i * (g * V) : Nat) : Int) = ((4294967296 ^ i : Nat) : Int) * (((g * V : Nat) : Int)) := by rw [Int.natCast_mul]
  cases flag with
  | true =>
    simp only [if_true, Int.one_mul] at hz a3
    -- too great by one
    have hgD : g = D + 1 := by
      rcases Nat.lt_or_ge D g with h | h
      · omega
      · exfalso
        have hge : g = D := by omega
        rw [hge] at hz
        omega
    have x25 : IntKind.u64.wrap ((g : Int) - 1) = (D : Int) := by rw [u64i (by omega) (by omega)]; omega
    have hDB : D < 4294967296 := by omega
    have x32 : IntKind.u32.wrap (D : Int) = (D : Int) := u32i (by omega) (by omega)
    simp only [cond_true, x25, Tot.bnd_iff, Tot.bind_iff]
    refine (nat_back_tot a2 a3 hv (by rw [a1]; exact hj) (by rw [a1]; exact hlen)).mono fun ub hb => ?_
    obtain ⟨b1, b2, ⟨c, hc01, b3⟩, b4⟩ := hb
    have hzb := vl_small (by omega) b2 fun k hk => by rw [b4 k hk, a4 k hk]; exact huz k hk
    rw [b3] at hzb
    have egg : ((4294967296 ^ i * (g * V) : Nat) : Int) = ((4294967296 ^ i * (D * V) : Nat) : Int) + ((4294967296 ^ i * V : Nat) : Int) := by
      rw [hgD, Nat.add_mul, Nat.one_mul, Nat.mul_add, Int.natCast_add]
    have hc1 : c = 1 := by
      rcases hc01 with h | h
      · exfalso
        rw [h, egg] at hzb
        omega
      · exact h
    simp only [nat_Div_j2, x32, w1, cond_some, Tot.cond_iff, Tot.ass_iff, Tot.bnd_iff, Tot.some_iff, Tot.map_iff, Tot.bind_iff, Nx.inl_iff, Nx.inr_iff, decide_eq_true_eq, decide_eq_false_iff_not]
    refine ⟨⟨by omega, by omega⟩, ub, rfl, by rw [b1, a1], b2, ?_, hDB⟩
    rw [b3, hc1, egg, fin]
    omega
  | false =>
    simp only [Bool.false_eq_true, if_false, Int.zero_mul, Int.add_zero] at hz a3
    have hgD : g = D := by
      rcases Nat.lt_or_ge D g with h | h
      · exfalso
        have h2 : g = D + 1 := by omega
        have h3 : 4294967296 ^ i * (W + 1) ≤ 4294967296 ^ i * (g * V) := Nat.mul_le_mul_left _ (by rw [h2]; exact hDV2)
        rw [Nat.mul_add, Nat.mul_one] at h3
        omega
      · omega
    subst hgD
    have x32 : IntKind.u32.wrap (g : Int) = (g : Int) := u32i (by omega) (by omega)
    simp only [cond_false, nat_Div_j2, x32, w1, cond_some, Tot.cond_iff, Tot.ass_iff, Tot.bnd_iff, Tot.some_iff, Tot.map_iff, Tot.bind_iff, Nx.inl_iff, Nx.inr_iff, decide_eq_true_eq, decide_eq_false_iff_not]
    refine ⟨⟨by omega, by omega⟩, ua, rfl, a1, a2, ?_, hg⟩
    rw [a3, fin]
end Go.Tom
