/- The program's quotients by one digit; numbers shifted. -/
import Derived.Test.YtomdhjdgcfcjdaaGreatDoorPN6
set_option linter.unusedVariables false
set_option linter.unusedSimpArgs false
namespace Go.Tom
open Go

theorem rd_rep0 {n : Nat} (j : Int) : rd (0 : Int) (List.replicate n 0) j = 0 := by
  simp [rd, List.getD_eq_getElem?_getD, List.getElem?_replicate]; split <;> rfl

theorem nat_short_eq {x d : Nat} (hx : (d32 x).length ≤ 3000000) (d0 : 0 < d) (d1 : d < 4294967296) : nat_short (d32 x) (d : Int) = some (d32 (x / d), ((x % d : Nat) : Int)) := by
  obtain ⟨m, hm⟩ : ∃ m, m = (d32 x).length := ⟨_, rfl⟩
  rw [← Tot.eq_iff]
  have hw1 : IntKind.i64.wrap (((d32 x).length : Int) - 1) = (m : Int) - 1 := by rw [w64 (by omega) (by omega)]; omega
  have hwd : IntKind.u64.wrap (d : Int) = (d : Int) := u64i (by omega) (by omega)
  simp only [nat_short, hw1, cond_some, Tot.cond_iff, Tot.ass_iff, Tot.bnd_iff, Tot.some_iff, Tot.map_iff, Tot.bind_iff, Nx.inl_iff, Nx.inr_iff, decide_eq_true_eq, decide_eq_false_iff_not]
  refine ⟨⟨by omega, Int.le_refl _, by unfold lim; omega⟩, ?_⟩
  refine Tot.loop (fun s => ∃ k : Nat, s.2.2 = (k : Int) - 1 ∧ k ≤ m ∧ s.1.length = m ∧ Dg 4294967296 s.1 ∧ s.2.1 = ((x / 4294967296 ^ k % d : Nat) : Int) ∧ vl 4294967296 s.1 = ((4294967296 ^ k * (x / 4294967296 ^ k / d) : Nat) : Int) ∧ ∀ j : Nat, j < k → rd 0 s.1 (j : Int) = 0)
    (fun s => (s.2.2 + 1).toNat) (fun s hs => ?_) ⟨m, rfl, Nat.le_refl _, by simp [hm], Dg.rep (by omega), ?_, ?_, fun j _ => rd_rep0 _⟩
  rotate_left
  · rw [dg_div_len (x := x) (k := m) b32 (show (d32 x).length ≤ m by omega)]; simp
  · rw [dg_div_len (x := x) (k := m) b32 (show (d32 x).length ≤ m by omega)]; simp [vl_rep]
  obtain ⟨q, rest, i0⟩ := s
  obtain ⟨k, h1, h2, h3, h4, h5, h6, h7⟩ := hs
  simp only at h1 h3 h4 h5 h6 h7
  subst h1 h5
  have hwr : IntKind.u32.wrap ((x / 4294967296 ^ k % d : Nat) : Int) = ((x / 4294967296 ^ k % d : Nat) : Int) := by
    have := Nat.mod_lt (x / 4294967296 ^ k) d0
    exact u32i (by omega) (by omega)
  rcases Nat.eq_zero_or_pos k with hk | hk
  · subst hk
    simp only [nat_short_b1, nat_short_j1, hwr, cond_some, Tot.cond_iff, Tot.ass_iff, Tot.bnd_iff, Tot.some_iff, Tot.map_iff, Tot.bind_iff, Nx.inl_iff, Nx.inr_iff, decide_eq_true_eq, decide_eq_false_iff_not]
    refine ⟨fun hc => absurd hc (by omega), fun _ => ?_⟩
    simp only [Nat.pow_zero, Nat.div_one, Nat.one_mul] at h6 ⊢
    rw [nat_Cut_eq h4 (by omega), h6, Int.toNat_natCast]
    exact Tot.some_iff.2 rfl
  · obtain ⟨i, rfl⟩ : ∃ i, k = i + 1 := ⟨k - 1, by omega⟩
    have hi1 : (((i + 1 : Nat) : Int) - 1) = (i : Int) := by omega
    rw [hi1]
    have hdx := dgt_lt (B := 4294967296) (x := x) (i := i) (by omega)
    obtain ⟨r, hr⟩ : ∃ r, r = x / 4294967296 ^ (i + 1) % d := ⟨_, rfl⟩
    have hrd : r < d := by rw [hr]; exact Nat.mod_lt _ d0
    rw [← hr] at hwr ⊢
    obtain ⟨t, ht⟩ : ∃ t, t = dgt 4294967296 x i + 4294967296 * r := ⟨_, rfl⟩
    have htd : t / d < 4294967296 := Nat.div_lt_of_lt_mul (by rw [Nat.mul_comm]; omega)
    have htm : t % d < d := Nat.mod_lt _ d0
    have ht64 : t ≤ 18446744073709551615 := by omega
    have hor := or32 (h := (r : Int)) (l := ((dgt 4294967296 x i : Nat) : Int)) (by omega) (by omega) (by omega) (by omega)
    rw [show ((dgt 4294967296 x i : Nat) : Int) + 4294967296 * (r : Int) = (t : Int) from by omega] at hor
    have hw2 : IntKind.u64.wrap (t : Int) = (t : Int) := u64i (by omega) (by omega)
    obtain ⟨e1, e2⟩ := tdivmod (a := (t : Int)) (b := (d : Int)) (by omega)
    have hw3 : IntKind.u64.wrap ((t : Int) / (d : Int)) = ((t / d : Nat) : Int) := by
      rw [show (t : Int) / (d : Int) = ((t / d : Nat) : Int) from rfl]
      generalize t / d = Q at htd ⊢
      exact u64i (by omega) (by omega)
    have hw4 : IntKind.u32.wrap ((t / d : Nat) : Int) = ((t / d : Nat) : Int) := by
      generalize t / d = Q at htd ⊢
      exact u32i (by omega) (by omega)
    have hw5 : IntKind.i64.wrap ((i : Int) - 1) = (i : Int) - 1 := w64 (by omega) (by omega)
    simp only [nat_short_b1, rd_dgt b32, hor, hw2, hwd, e1, e2, hw3, hw4, hw5, cond_some, Tot.cond_iff, Tot.ass_iff, Tot.bnd_iff, Tot.some_iff, Tot.map_iff, Tot.bind_iff, Nx.inl_iff, Nx.inr_iff, decide_eq_true_eq, decide_eq_false_iff_not]
    have hxe : x / 4294967296 ^ i = t + d * (4294967296 * (x / 4294967296 ^ (i + 1) / d)) := by
      rw [div_up, ht, hr]
      have := Nat.mod_add_div (x / 4294967296 ^ (i + 1)) d
      have e : d * (4294967296 * (x / 4294967296 ^ (i + 1) / d)) = 4294967296 * (d * (x / 4294967296 ^ (i + 1) / d)) := Nat.mul_left_comm ..
      rw [e]
      omega
    refine ⟨fun _ => ⟨by omega, ⟨by omega, by omega⟩, by omega, ⟨by omega, by omega⟩, by omega, ⟨i, rfl, by omega, by rw [wr_length]; exact h3, h4.wr (Int.natCast_nonneg _) (by exact_mod_cast htd), ?_, ?_, fun j hj => ?_⟩, by omega⟩, fun hc => absurd hc (by omega)⟩
    · rw [hxe, Nat.add_mul_mod_self_left]
      rfl
    · rw [vl_wr (by omega), h6, h7 i (by omega), hxe, Nat.add_mul_div_left _ _ d0, Nat.pow_succ, Nat.mul_add]
      simp only [Int.natCast_add, Int.natCast_mul]
      rw [show ((4294967296 : Nat) : Int) = 4294967296 from rfl]
      grind
    · rw [rd_wr (by omega) (by omega) (by omega), if_neg (by omega)]
      exact h7 j (by omega)

theorem nat_shifted_tot {x s : Nat} (hx : (d32 x).length ≤ 3000000) (hs : s < 32) : Tot (nat_shifted (d32 x) (s : Int)) (fun l => l.length = (d32 x).length + 1 ∧ Dg 4294967296 l ∧ vl 4294967296 l = ((x * 2 ^ s : Nat) : Int)) := by
  obtain ⟨m, hm⟩ : ∃ m, m = (d32 x).length := ⟨_, rfl⟩
  have hw1 : IntKind.i64.wrap (((d32 x).length : Int) + 1) = ((m + 1 : Nat) : Int) := by rw [w64 (by omega) (by omega)]; omega
  have h2s : 2 ^ s ≤ 2 ^ 31 := Nat.pow_le_pow_right (by omega) (by omega)
  have h2p : 0 < 2 ^ s := Nat.pow_pos (by omega)
  simp only [nat_shifted, hw1, cond_some, Tot.cond_iff, Tot.ass_iff, Tot.bnd_iff, Tot.some_iff, Tot.map_iff, Tot.bind_iff, Nx.inl_iff, Nx.inr_iff, decide_eq_true_eq, decide_eq_false_iff_not]
  refine ⟨⟨by omega, Int.le_refl _, by unfold lim; omega⟩, ?_⟩
  rw [Int.toNat_natCast]
  refine Tot.loop (fun z => ∃ i : Nat, z.2.2 = (i : Int) ∧ i ≤ m + 1 ∧ z.1.length = m + 1 ∧ Dg 4294967296 z.1 ∧ 0 ≤ z.2.1 ∧ z.2.1 < ((2 ^ s : Nat) : Int) ∧ vl 4294967296 z.1 + z.2.1 * ((4294967296 ^ i : Nat) : Int) = ((x % 4294967296 ^ i * 2 ^ s : Nat) : Int) ∧ (i = m + 1 → z.2.1 = 0) ∧ ∀ j : Nat, i ≤ j → rd 0 z.1 (j : Int) = 0)
    (fun z => ((m : Int) + 1 - z.2.2).toNat) (fun z hz => ?_) ⟨0, rfl, by omega, List.length_replicate, Dg.rep (by omega), Int.le_refl _, by show (0 : Int) < ((2 ^ s : Nat) : Int); omega, by simp only [vl_rep, Nat.pow_zero, Nat.mod_one, Nat.zero_mul]; rfl, fun h => by omega, fun j _ => rd_rep0 _⟩
  obtain ⟨l, o, i0⟩ := z
  obtain ⟨i, h1, h2, h3, h4, h5, h6, h7, h8, h9⟩ := hz
  simp only at h1 h3 h4 h5 h6 h7 h8 h9
  subst h1
  have hdx := dgt_lt (B := 4294967296) (x := x) (i := i) (by omega)
  obtain ⟨a, ha⟩ : ∃ a, a = dgt 4294967296 x i := ⟨_, rfl⟩
  rw [← ha] at hdx
  have hmin : min (s : Int).toNat IntKind.u64.bits = s := by rw [Int.toNat_natCast, show IntKind.u64.bits = 64 from by decide]; omega
  have hpw : (2 : Int) ^ s = ((2 ^ s : Nat) : Int) := by rw [Int.natCast_pow]; rfl
  have hab : a * 2 ^ s ≤ 4294967295 * 2 ^ s := Nat.mul_le_mul_right _ (by omega)
  have hw2 : IntKind.u64.wrap (a : Int) = (a : Int) := u64i (by omega) (by omega)
  have hw3 : IntKind.u64.wrap ((a : Int) * ((2 ^ s : Nat) : Int)) = (a : Int) * ((2 ^ s : Nat) : Int) := by
    rw [← Int.natCast_mul]; exact u64i (by omega) (by omega)
  have hor := orS (c := o) (a := (a : Int)) (s := s) (by omega) h5 h6 (by omega) (by rw [← Int.natCast_mul]; omega)
  obtain ⟨t, ht⟩ : ∃ t : Int, t = o + (a : Int) * ((2 ^ s : Nat) : Int) := ⟨_, rfl⟩
  rw [← ht] at hor
  have htb : 0 ≤ t ∧ t < 4294967296 * ((2 ^ s : Nat) : Int) := by
    rw [← Int.natCast_mul] at ht
    have : ((a * 2 ^ s : Nat) : Int) ≤ 4294967295 * ((2 ^ s : Nat) : Int) := by omega
    omega
  have hw4 : IntKind.u64.wrap t = t := u64i (by omega) (by omega)
  have hw5 : IntKind.i64.wrap ((i : Int) + 1) = (i : Int) + 1 := w64 (by omega) (by omega)
  have hor' : ((BitVec.ofInt IntKind.u64.bits o ||| BitVec.ofInt IntKind.u64.bits ((a : Int) * ((2 ^ s : Nat) : Int))).toNat : Int) = t := hor
  have hlr : ((List.replicate (m + 1) (0 : Int)).length : Int) = (m : Int) + 1 := by rw [List.length_replicate]; omega
  simp only [nat_shifted_b1, nat_shifted_j1, nat_at_eq _ (show (0 : Int) ≤ (i : Int) by omega), rd_dgt b32, ← ha, hmin, hpw, hw2, hw3, hor', hw4, hw5, fd32, u32m, hlr, cond_some, Tot.cond_iff, Tot.ass_iff, Tot.bnd_iff, Tot.some_iff, Tot.map_iff, Tot.bind_iff, Nx.inl_iff, Nx.inr_iff, decide_eq_true_eq, decide_eq_false_iff_not]
  refine ⟨fun hc => ⟨by omega, ⟨by omega, by omega⟩, by omega, ⟨i + 1, by simp, by omega, by rw [wr_length]; exact h3, h4.wr (by omega) (by omega), by omega, by omega, ?_, fun him => ?_, fun j hj => ?_⟩, by omega⟩, fun hc => ?_⟩
  · rw [vl_wr (by omega), h9 i (Nat.le_refl _), mod_up, ← ha, Nat.add_mul, Nat.pow_succ 4294967296 i]
    simp only [Int.natCast_add, Int.natCast_mul] at h7 ⊢
    generalize ((4294967296 ^ i : Nat) : Int) = M at h7 ⊢
    rw [show ((4294967296 : Nat) : Int) = 4294967296 from rfl]
    have hs : t % 4294967296 = t - 4294967296 * (t / 4294967296) := by omega
    rw [hs]
    generalize t / 4294967296 = q
    generalize ((2 ^ s : Nat) : Int) = S at ht h7 ⊢
    grind
  · have hz : a = 0 := by rw [ha]; unfold dgt; rw [dg_div_len (x := x) (k := i) b32 (show (d32 x).length ≤ i by omega)]
    rw [hz] at ht
    omega
  · rw [rd_wr (by omega) (by omega) (by omega), if_neg (by omega)]
    exact h9 j (by omega)
  · have hi : i = m + 1 := by omega
    rw [h8 hi, dg_mod_len (x := x) (k := i) b32 (show (d32 x).length ≤ i by omega)] at h7
    exact ⟨by omega, h4, by omega⟩
end Go.Tom
