/- The program's quotients. -/
import Derived.Test.YtomdhjdgcfcjdaaGreatDoorPN9
import Derived.Lib.ItoaNum
set_option linter.unusedVariables false
set_option linter.unusedSimpArgs false
namespace Go.Tom
open Go

theorem vl_zeros {B : Nat} : ∀ {l : List Int}, (∀ k : Nat, rd 0 l (k : Int) = 0) → vl B l = 0
  | [], _ => rfl
  | a :: l, h => by
    have h0 : a = 0 := h 0
    have ht : vl B l = 0 := vl_zeros fun k => by
      have := h (k + 1)
      simpa [rd] using this
    show a + (B : Int) * vl B l = 0
    rw [h0, ht]; simp

/-- Without digits from t on. -/
theorem vl_small {B : Nat} (hB : 0 < B) {l : List Int} (h : Dg B l) {t : Nat} (hz : ∀ k : Nat, t ≤ k → rd 0 l (k : Int) = 0) : 0 ≤ vl B l ∧ vl B l < ((B ^ t : Nat) : Int) := by
  refine ⟨(vl_bound h).1, ?_⟩
  rcases Nat.lt_or_ge l.length t with hl | hl
  · refine Int.lt_of_lt_of_le (vl_bound h).2 ?_
    exact_mod_cast Nat.pow_le_pow_right hB (Nat.le_of_lt hl)
  · rw [vl_split t hl]
    have e : vl B (l.drop t) = 0 := vl_zeros fun k => by
      have := hz (t + k) (by omega)
      have e2 : rd 0 (l.drop t) (k : Int) = rd 0 l ((t + k : Nat) : Int) := by
        unfold rd
        simp only [Int.toNat_natCast, List.getD_eq_getElem?_getD, List.getElem?_drop]
      rw [e2]; exact this
    rw [e]
    have := (vl_bound (h.take t)).2
    rw [List.length_take, Nat.min_eq_left hl] at this
    simpa using this

theorem leading {v : Nat} (h0 : 0 < v) (h1 : v < 4294967296) : ∃ s : Nat, s < 32 ∧ math_bits_LeadingZeros32 (v : Int) = some (s : Int) ∧ 2147483648 ≤ v * 2 ^ s ∧ v * 2 ^ s < 4294967296 := by
  have hb := Lib.bitLenAux_bounds 64 v (by omega) (by omega)
  have hL : Lib.bitLen v = Lib.bitLenAux 64 v := rfl
  rw [← hL] at hb
  have hle : Lib.bitLen v ≤ 32 := by
    rcases Nat.lt_or_ge 32 (Lib.bitLen v) with hc | hc
    · have : 2 ^ 32 ≤ 2 ^ (Lib.bitLen v - 1) := Nat.pow_le_pow_right (by omega) (by omega)
      omega
    · exact hc
  obtain ⟨s, hs⟩ : ∃ s, s = 32 - Lib.bitLen v := ⟨_, rfl⟩
  refine ⟨s, by omega, ?_, ?_, ?_⟩
  · rw [← Tot.eq_iff]
    have hw : IntKind.i64.wrap ((32 : Int) - (Lib.bitLen v : Int)) = (s : Int) := by rw [w64 (by omega) (by omega)]; omega
    simp only [math_bits_LeadingZeros32, math_bits_Len32, Int.toNat_natCast, hw, cond_some, Tot.cond_iff, Tot.ass_iff, Tot.bnd_iff, Tot.some_iff, Tot.map_iff, Tot.bind_iff, Nx.inl_iff, Nx.inr_iff, decide_eq_true_eq, decide_eq_false_iff_not]
    exact ⟨⟨by omega, by omega⟩, trivial⟩
  · have : 2 ^ (Lib.bitLen v - 1) * 2 ^ s ≤ v * 2 ^ s := Nat.mul_le_mul_right _ hb.2.1
    rw [← Nat.pow_add, show Lib.bitLen v - 1 + s = 31 from by omega] at this
    omega
  · have : v * 2 ^ s < 2 ^ Lib.bitLen v * 2 ^ s := Nat.mul_lt_mul_of_pos_right hb.2.2 (Nat.pow_pos (by omega))
    rw [← Nat.pow_add, show Lib.bitLen v + s = 32 from by omega] at this
    omega

theorem down_digit {U s : Nat} (hs : s < 32) : (U % 4294967296 + 4294967296 * (U / 4294967296 % 4294967296)) / 2 ^ s % 4294967296 = U / 2 ^ s % 4294967296 := by
  have e : 4294967296 = 2 ^ s * 2 ^ (32 - s) := by rw [← Nat.pow_add, show s + (32 - s) = 32 from by omega]
  obtain ⟨t, ht⟩ : ∃ t, t = U % 4294967296 + 4294967296 * (U / 4294967296 % 4294967296) := ⟨_, rfl⟩
  have hU : U = t + 4294967296 * (4294967296 * (U / 4294967296 / 4294967296)) := by omega
  rw [← ht]
  conv => rhs; rw [hU]
  generalize U / 4294967296 / 4294967296 = w
  have e2 : t + 4294967296 * (4294967296 * w) = t + 2 ^ s * (2 ^ (32 - s) * (4294967296 * w)) := by
    rw [← Nat.mul_assoc (2 ^ s), ← e]
  rw [e2, Nat.add_mul_div_left _ _ (Nat.pow_pos (by omega)), show 2 ^ (32 - s) * (4294967296 * w) = 4294967296 * (2 ^ (32 - s) * w) from Nat.mul_left_comm .., Nat.add_mul_mod_self_left]

theorem nat_down_eq {l : List Int} {U s : Nat} (h : Dg 4294967296 l) (hU : vl 4294967296 l = (U : Int)) (hl : l.length ≤ 5000000) (hs : s < 32) : nat_down l (s : Int) = some (d32 (U / 2 ^ s)) := by
  rw [← Tot.eq_iff]
  obtain ⟨m, hm⟩ : ∃ m, m = l.length := ⟨_, rfl⟩
  have h2s : 2 ^ s ≤ 2 ^ 31 := Nat.pow_le_pow_right (by omega) (by omega)
  have h2p : 0 < 2 ^ s := Nat.pow_pos (by omega)
  simp only [nat_down, cond_some, Tot.cond_iff, Tot.ass_iff, Tot.bnd_iff, Tot.some_iff, Tot.map_iff, Tot.bind_iff, Nx.inl_iff, Nx.inr_iff, decide_eq_true_eq, decide_eq_false_iff_not]
  refine ⟨⟨by omega, Int.le_refl _, by unfold lim; omega⟩, ?_⟩
  rw [Int.toNat_natCast, ← hm]
  refine Tot.loop (fun z => ∃ i : Nat, z.2 = (i : Int) ∧ i ≤ m ∧ z.1.length = m ∧ Dg 4294967296 z.1 ∧ vl 4294967296 z.1 = ((U / 2 ^ s % 4294967296 ^ i : Nat) : Int) ∧ ∀ j : Nat, i ≤ j → rd 0 z.1 (j : Int) = 0)
    (fun z => ((m : Int) - z.2).toNat) (fun z hz => ?_) ⟨0, rfl, by omega, List.length_replicate, Dg.rep (by omega), by simp only [vl_rep, Nat.pow_zero, Nat.mod_one]; rfl, fun j _ => rd_rep0 _⟩
  obtain ⟨q, i0⟩ := z
  obtain ⟨i, h1, h2, h3, h4, h5, h6⟩ := hz
  simp only at h1 h3 h4 h5 h6
  subst h1
  have hi1 : IntKind.i64.wrap ((i : Int) + 1) = ((i + 1 : Nat) : Int) := by rw [w64 (by omega) (by omega)]; omega
  have d0 := dgt_lt (B := 4294967296) (x := U) (i := i) (by omega)
  have d1 := dgt_lt (B := 4294967296) (x := U) (i := i + 1) (by omega)
  obtain ⟨a, ha⟩ : ∃ a, a = dgt 4294967296 U i := ⟨_, rfl⟩
  obtain ⟨b, hb⟩ : ∃ b, b = dgt 4294967296 U (i + 1) := ⟨_, rfl⟩
  rw [← ha] at d0
  rw [← hb] at d1
  have o1 := or32 (h := (b : Int)) (l := (a : Int)) (by omega) (by omega) (by omega) (by omega)
  have x1 : IntKind.u64.wrap (b : Int) = (b : Int) := u64i (by omega) (by omega)
  have x2 : IntKind.u64.wrap ((a : Int) + 4294967296 * (b : Int)) = ((a + 4294967296 * b : Nat) : Int) := by rw [u64i (by omega) (by omega)]; omega
  have hmin : min (s : Int).toNat IntKind.u64.bits = s := by rw [Int.toNat_natCast, show IntKind.u64.bits = 64 from by decide]; omega
  have hpw : (2 : Int) ^ s = ((2 ^ s : Nat) : Int) := by rw [Int.natCast_pow]; rfl
  have hfd : Int.fdiv ((a + 4294967296 * b : Nat) : Int) ((2 ^ s : Nat) : Int) = (((a + 4294967296 * b) / 2 ^ s : Nat) : Int) := by
    rw [Int.fdiv_eq_ediv_of_nonneg _ (Int.natCast_nonneg _)]; rfl
  have hdig : (((a + 4294967296 * b) / 2 ^ s : Nat) : Int) % 4294967296 = ((dgt 4294967296 (U / 2 ^ s) i : Nat) : Int) := by
    have e := down_digit (U := U / 4294967296 ^ i) hs
    have e2 : dgt 4294967296 (U / 2 ^ s) i = U / 4294967296 ^ i / 2 ^ s % 4294967296 := by
      unfold dgt; rw [Nat.div_div_eq_div_mul, Nat.mul_comm, ← Nat.div_div_eq_div_mul]
    have e3 : b = U / 4294967296 ^ i / 4294967296 % 4294967296 := by
      rw [hb]; unfold dgt; rw [Nat.pow_succ, Nat.div_div_eq_div_mul]
    have e4 : a = U / 4294967296 ^ i % 4294967296 := ha
    rw [e2, ← e, ← e3, ← e4]
    rfl
  have hdl := dgt_lt (B := 4294967296) (x := U / 2 ^ s) (i := i) (by omega)
  simp only [nat_down_b1, nat_down_j1, hi1, nat_at_eq _ (show (0 : Int) ≤ ((i + 1 : Nat) : Int) by omega), rd_num h hU, ← ha, ← hb, x1, o1, x2, hmin, hpw, hfd, u32m, hdig, cond_some, Tot.cond_iff, Tot.ass_iff, Tot.bnd_iff, Tot.some_iff, Tot.map_iff, Tot.bind_iff, Nx.inl_iff, Nx.inr_iff, decide_eq_true_eq, decide_eq_false_iff_not]
  refine ⟨fun hc => ⟨by omega, ⟨by omega, by omega⟩, by omega, ⟨by omega, by omega⟩, ⟨i + 1, by simp, by omega, by rw [wr_length]; exact h3, h4.wr (by omega) (by omega), ?_, fun j hj => ?_⟩, by omega⟩, fun hc => ?_⟩
  · rw [vl_wr (by omega), h6 i (Nat.le_refl _), h5, cast_up]
    simp
  · rw [rd_wr (by omega) (by omega) (by omega), if_neg (by omega)]
    exact h6 j (by omega)
  · have hi : i = m := by omega
    have hUl : U < 4294967296 ^ i := by
      have := (vl_bound h).2
      rw [hU, ← hm, ← hi] at this
      exact_mod_cast this
    have hq : U / 2 ^ s % 4294967296 ^ i = U / 2 ^ s := Nat.mod_eq_of_lt (Nat.lt_of_le_of_lt (Nat.div_le_self ..) hUl)
    rw [hq] at h5
    rw [nat_Cut_eq h4 (by omega), h5, Int.toNat_natCast]
    exact Tot.some_iff.2 rfl
end Go.Tom
