/- What two numbers have in common, by the program; words. -/
import Derived.Test.YtomdhjdgcfcjdaaGreatDoorPN12
set_option linter.unusedVariables false
set_option linter.unusedSimpArgs false
namespace Go.Tom
open Go

theorem nat_Div_zero {x : Nat} (hx : (d32 x).length ≤ 2000000) : nat_Div (d32 x) [] = some ([], [], false) := by
  have h0 : nat_Cut [] = some [] := by have := nat_Cut_d32 (x := 0) (by rw [d32_zero]; simp); rwa [d32_zero] at this
  rw [← Tot.eq_iff]
  simp [nat_Div, nat_Cut_d32 (x := x) (by omega), h0, Tot.some_iff]

theorem nat_Gcd_eq {x y : Nat} (hx : (d32 x).length ≤ 2000000) (hy : (d32 y).length ≤ 2000000) : nat_Gcd (d32 x) (d32 y) = some (d32 (Nat.gcd x y)) := by
  rw [← Tot.eq_iff]
  simp only [nat_Gcd, nat_Cut_d32 (x := x) (by omega), nat_Cut_d32 (x := y) (by omega), Option.bind_some]
  refine Tot.loop (fun s => ∃ a b : Nat, s = (d32 a, d32 b) ∧ (d32 a).length ≤ 2000000 ∧ (d32 b).length ≤ 2000000 ∧ Nat.gcd a b = Nat.gcd x y) (fun s => (vl 4294967296 s.2).toNat) (fun s hs => ?_) ⟨x, y, rfl, hx, hy, rfl⟩
  obtain ⟨a, b, rfl, h1, h2, h3⟩ := hs
  simp only [nat_Gcd_b1, nat_Gcd_j1, cond_some, Tot.cond_iff, Tot.ass_iff, Tot.bnd_iff, Tot.some_iff, Tot.map_iff, Tot.bind_iff, Nx.inl_iff, Nx.inr_iff, decide_eq_true_eq, decide_eq_false_iff_not]
  refine ⟨fun hc => ?_, fun hc => ?_⟩
  · have hb : 0 < b := by
      rcases Nat.eq_zero_or_pos b with h0 | h0
      · subst h0; rw [d32_zero] at hc; simp at hc
      · exact h0
    rw [nat_Div_eq h1 h2 hb]
    have hlt := Nat.mod_lt a hb
    refine Tot.some_iff.2 ⟨⟨b, a % b, rfl, h2, Nat.le_trans (d32_mono (Nat.le_of_lt hlt)) h2, by rw [Nat.gcd_comm b, ← Nat.gcd_rec, Nat.gcd_comm, h3]⟩, ?_⟩
    simp only [d32, vl_dg b32]
    omega
  · have hb : b = 0 := d32_nil (by omega)
    subst hb
    rw [Nat.gcd_zero_right] at h3
    rw [h3]

theorem nat_Lcm_eq {x y : Nat} (hx : (d32 x).length ≤ 1000000) (hy : (d32 y).length ≤ 1000000) : nat_Lcm (d32 x) (d32 y) = some (d32 (Nat.lcm x y)) := by
  rw [← Tot.eq_iff]
  simp only [nat_Lcm, nat_Gcd_eq (x := x) (y := y) (by omega) (by omega), Option.bind_some]
  rcases Nat.eq_zero_or_pos (Nat.gcd x y) with hg | hg
  · rw [hg, d32_zero, nat_Div_zero (by omega)]
    have hx0 : x = 0 := Nat.eq_zero_of_gcd_eq_zero_left hg
    subst hx0
    simp [d32_zero, Tot.some_iff, Nat.lcm]
  · have hgl : (d32 (Nat.gcd x y)).length ≤ 2000000 := by
      rcases Nat.eq_zero_or_pos x with h | h
      · subst h; rw [Nat.gcd_zero_left]; omega
      · have := d32_mono (Nat.gcd_le_left y h); omega
    have hq : (d32 (x / Nat.gcd x y)).length ≤ 2000000 := by have := d32_mono (Nat.div_le_self x (Nat.gcd x y)); omega
    rw [nat_Div_eq (by omega) hgl hg]
    simp only [Option.bind_some, Bool.not_true, cond_false, nat_Mul_two hq (show (d32 y).length ≤ 2000000 by omega), Tot.some_iff]
    congr 1
    unfold Nat.lcm
    rw [Nat.div_mul_right_comm (Nat.gcd_dvd_left x y)]

theorem d16_nil {x : Nat} (h : (d16 x).length = 0) : x = 0 := (dg_nil b16).1 (List.eq_nil_of_length_eq_zero h)
theorem d16_zero : d16 0 = [] := dg_zero

theorem r01_Word_eq {x : Nat} (hx : (d16 x).length ≤ 2000000) : r01_Word (d16 x) = some (if x < 18446744073709551616 then ((x : Int), true) else (0, false)) := by
  rw [← Tot.eq_iff]
  have hiff : x < 18446744073709551616 ↔ (d16 x).length ≤ 4 := by
    constructor
    · exact fun h => dg_len b16 (by omega)
    · intro h
      have h1 : x < 65536 ^ (d16 x).length := dg_lt b16
      have : 65536 ^ (d16 x).length ≤ 65536 ^ 4 := Nat.pow_le_pow_right (by omega) h
      omega
  by_cases h4 : (d16 x).length ≤ 4
  rotate_left
  · rw [if_neg (fun h => h4 (hiff.1 h))]
    have e : decide (((d16 x).length : Int) > 4) = true := decide_eq_true (by omega)
    simp only [r01_Word, e, cond_true]
    exact Tot.some_iff.2 rfl
  have hx64 := hiff.2 h4
  rw [if_pos hx64]
  have e : decide (((d16 x).length : Int) > 4) = false := decide_eq_false (by omega)
  have w1 : IntKind.i64.wrap (((d16 x).length : Int) - 1) = ((d16 x).length : Int) - 1 := w64 (by omega) (by omega)
  simp only [r01_Word, e, cond_false, w1, Tot.bnd_iff]
  refine Tot.loop (fun z => ∃ k : Nat, z.2 = (k : Int) - 1 ∧ k ≤ (d16 x).length ∧ z.1 = ((x / 65536 ^ k : Nat) : Int)) (fun z => (z.2 + 1).toNat) (fun z hz => ?_) ⟨(d16 x).length, rfl, Nat.le_refl _, by
    show (0 : Int) = _
    rw [dg_div_len (x := x) (k := (d16 x).length) b16 (Nat.le_refl _)]; rfl⟩
  obtain ⟨a, i0⟩ := z
  obtain ⟨k, h1, h2, h3⟩ := hz
  simp only at h1 h3
  subst h1 h3
  rcases Nat.eq_zero_or_pos k with hk | hk
  · subst hk
    have hc : decide (((0 : Nat) : Int) - 1 ≥ 0) = false := by decide
    simp only [r01_Word_b1, r01_Word_j1, hc, cond_false, Option.map_some, Tot.some_iff, Nat.pow_zero, Nat.div_one]
    exact Nx.inr_iff.2 rfl
  · obtain ⟨i, rfl⟩ : ∃ i, k = i + 1 := ⟨k - 1, by omega⟩
    have hi1 : (((i + 1 : Nat) : Int) - 1) = (i : Int) := by omega
    have hd := dgt_lt (B := 65536) (x := x) (i := i) (by omega)
    have hup := div_up (B := 65536) (x := x) (i := i)
    have hle : x / 65536 ^ i ≤ x := Nat.div_le_self ..
    obtain ⟨q, hq⟩ : ∃ q, q = x / 65536 ^ (i + 1) := ⟨_, rfl⟩
    obtain ⟨p, hp⟩ : ∃ p, p = x / 65536 ^ i := ⟨_, rfl⟩
    obtain ⟨d, hdd⟩ : ∃ d, d = dgt 65536 x i := ⟨_, rfl⟩
    rw [← hq, ← hp, ← hdd] at hup
    rw [← hp] at hle
    rw [← hdd] at hd
    have x1 : IntKind.u64.wrap ((q : Int) * 65536) = (q : Int) * 65536 := u64i (by omega) (by omega)
    have x2 : IntKind.u64.wrap (d : Int) = (d : Int) := u64i (by omega) (by omega)
    have x3 : IntKind.u64.wrap ((q : Int) * 65536 + (d : Int)) = (p : Int) := by rw [u64i (by omega) (by omega)]; omega
    have x4 : IntKind.i64.wrap ((i : Int) - 1) = (i : Int) - 1 := w64 (by omega) (by omega)
    rw [← hq]
    simp only [r01_Word_b1, hi1, rd_dgt b16, ← hdd, x1, x2, x3, x4, cond_some, Tot.cond_iff, Tot.ass_iff, Tot.bnd_iff, Tot.some_iff, Tot.map_iff, Tot.bind_iff, Nx.inl_iff, Nx.inr_iff, decide_eq_true_eq, decide_eq_false_iff_not]
    refine ⟨fun _ => ⟨⟨by omega, by omega⟩, ⟨i, rfl, by omega, by rw [hp]⟩, by omega⟩, fun hc => absurd hc (by omega)⟩

theorem nat_Bits_tot {x : Nat} (hx : (d32 x).length ≤ 2000000) : Tot (nat_Bits (d32 x)) (fun b => b > 64 ↔ ¬ x < 18446744073709551616) := by
  simp only [nat_Bits, nat_Cut_d32 (x := x) (by omega), Option.bind_some]
  by_cases h0 : (d32 x).length = 0
  · have e : (((d32 x).length : Int) == 0) = true := by rw [h0]; rfl
    have := d32_nil h0
    rw [e, cond_true]
    refine Tot.some_iff.2 ?_
    omega
  · have e : (((d32 x).length : Int) == 0) = false := by simp; exact fun hc => h0 (by rw [hc]; rfl)
    obtain ⟨n, hn⟩ : ∃ n, (d32 x).length = n + 1 := ⟨(d32 x).length - 1, by omega⟩
    have w1 : IntKind.i64.wrap (((d32 x).length : Int) - 1) = (n : Int) := by rw [w64 (by omega) (by omega)]; omega
    have htop : dgt 4294967296 x n ≠ 0 := fun hc => by
      have := dg_top b32 (n := x) (fun h => h0 (by rw [d32, h]; rfl))
      rw [show (dg 4294967296 x).length - 1 = n from by have : (dg 4294967296 x).length = n + 1 := hn; omega, rd_dgt b32, hc] at this
      exact this rfl
    have htl := dgt_lt (B := 4294967296) (x := x) (i := n) (by omega)
    obtain ⟨v, hv⟩ : ∃ v, v = dgt 4294967296 x n := ⟨_, rfl⟩
    rw [← hv] at htop htl
    have hbb := Lib.bitLenAux_bounds 64 v (by omega) htop
    have hL : Lib.bitLen v = Lib.bitLenAux 64 v := rfl
    rw [← hL] at hbb
    have hle : Lib.bitLen v ≤ 32 := by
      rcases Nat.lt_or_ge 32 (Lib.bitLen v) with hc | hc
      · have : 2 ^ 32 ≤ 2 ^ (Lib.bitLen v - 1) := Nat.pow_le_pow_right (by omega) (by omega)
        omega
      · exact hc
    obtain ⟨L, hLL⟩ : ∃ L, L = Lib.bitLen v := ⟨_, rfl⟩
    rw [← hLL] at hle
    have hL1 : 1 ≤ L := by rw [hLL]; exact hbb.1
    have w2 : IntKind.i64.wrap ((32 : Int) * (n : Int)) = 32 * (n : Int) := w64 (by omega) (by omega)
    have w3 : IntKind.i64.wrap (32 * (n : Int) + (L : Int)) = 32 * (n : Int) + (L : Int) := w64 (by omega) (by omega)
    rw [e, cond_false, w1]
    simp only [rd_dgt b32, ← hv, math_bits_Len32, Int.toNat_natCast, ← hLL, w2, w3, cond_some, Tot.cond_iff, Tot.ass_iff, Tot.bnd_iff, Tot.some_iff, Tot.map_iff, Tot.bind_iff, Nx.inl_iff, Nx.inr_iff, decide_eq_true_eq, decide_eq_false_iff_not]
    refine ⟨⟨by omega, by omega⟩, ⟨by omega, by omega⟩, ?_⟩
    have hx1 : x < 4294967296 ^ (n + 1) := by rw [← hn]; exact dg_lt b32
    have hx2 : 4294967296 ^ n ≤ x := by
      have := dg_le b32 (n := x) (by
        rcases Nat.eq_zero_or_pos x with h | h
        · exfalso; apply h0; rw [h, d32_zero]; rfl
        · exact h)
      rwa [show (dg 4294967296 x).length - 1 = n from by have : (dg 4294967296 x).length = n + 1 := hn; omega] at this
    rcases Nat.lt_or_ge n 2 with h | h
    · have : 4294967296 ^ (n + 1) ≤ 4294967296 ^ 2 := Nat.pow_le_pow_right (by omega) (by omega)
      omega
    · have : 4294967296 ^ 2 ≤ 4294967296 ^ n := Nat.pow_le_pow_right (by omega) h
      omega

theorem word_val {x : Nat} (hx64 : x < 18446744073709551616) : ((dgt 4294967296 x 0 : Nat) : Int) + 4294967296 * ((dgt 4294967296 x 1 : Nat) : Int) = (x : Int) := by
  have h1 : dgt 4294967296 x 0 = x % 4294967296 := by unfold dgt; rw [Nat.pow_zero, Nat.div_one]
  have h2 : dgt 4294967296 x 1 = x / 4294967296 % 4294967296 := by unfold dgt; rw [Nat.pow_one]
  rw [h1, h2]
  omega

theorem rd_zero {x : Nat} : rd 0 (d32 x) 0 = ((dgt 4294967296 x 0 : Nat) : Int) := by
  have := rd_dgt b32 (x := x) 0
  rwa [Int.natCast_zero] at this
theorem rd_one {x : Nat} : rd 0 (d32 x) 1 = ((dgt 4294967296 x 1 : Nat) : Int) := by
  have := rd_dgt b32 (x := x) 1
  rwa [Int.natCast_one] at this

theorem nat_Word_eq {x : Nat} (hx : (d32 x).length ≤ 2000000) : nat_Word (d32 x) = some (if x < 18446744073709551616 then ((x : Int), true) else (0, false)) := by
  rw [← Tot.eq_iff]
  have hb := nat_Bits_tot hx
  simp only [nat_Word, Tot.bind_iff]
  refine hb.mono fun b hb => ?_
  by_cases hx64 : x < 18446744073709551616
  · have e : decide (b > 64) = false := decide_eq_false fun hc => (hb.1 hc) hx64
    have d0 := dgt_lt (B := 4294967296) (x := x) (i := 0) (by omega)
    have d1 := dgt_lt (B := 4294967296) (x := x) (i := 1) (by omega)
    have hv := word_val hx64
    have hr0 := rd_zero (x := x)
    have hr1 := rd_one (x := x)
    obtain ⟨p0, hp0⟩ : ∃ p0 : Int, p0 = ((dgt 4294967296 x 0 : Nat) : Int) := ⟨_, rfl⟩
    obtain ⟨p1, hp1⟩ : ∃ p1 : Int, p1 = ((dgt 4294967296 x 1 : Nat) : Int) := ⟨_, rfl⟩
    rw [← hp0] at hr0 hv
    rw [← hp1] at hr1 hv
    have b0 : 0 ≤ p0 ∧ p0 < 4294967296 := by omega
    have b1 : 0 ≤ p1 ∧ p1 < 4294967296 := by omega
    clear hp0 hp1 d0 d1
    have o1 := or32 (h := p1) (l := p0) b1.1 b1.2 b0.1 b0.2
    have x1 : IntKind.u64.wrap p1 = p1 := u64i b1.1 (by omega)
    rw [hv] at o1
    have x2 : IntKind.u64.wrap (x : Int) = (x : Int) := u64i (by omega) (by omega)
    rw [if_pos hx64]
    simp only [e, cond_false, nat_at_eq _ (show (0 : Int) ≤ 1 by decide), nat_at_eq _ (show (0 : Int) ≤ 0 by decide), hr0, hr1, x1, Option.bind_some, Tot.ass_iff, Tot.bnd_iff]
    rw [o1, x2]
    exact ⟨by decide, Tot.some_iff.2 rfl⟩
  · have e : decide (b > 64) = true := decide_eq_true (hb.2 hx64)
    rw [if_neg hx64, e, cond_true]
    exact Tot.some_iff.2 rfl

/-- Sums of two. -/
theorem nat_Add_two {x y : Nat} (hx : (d32 x).length ≤ 2000000) (hy : (d32 y).length ≤ 2000000) : nat_Add [d32 x, d32 y] = some (d32 (x + y)) := by
  rw [← Tot.eq_iff]
  simp only [nat_Add]
  refine Tot.loop (fun s => s = (d32 0, 0) ∨ s = (d32 x, 1) ∨ s = (d32 (x + y), 2)) (fun s => ((2 : Int) - s.2).toNat) (fun s hs => ?_) (.inl (by rw [d32_zero]))
  have hw1 : IntKind.i64.wrap (1 : Int) = 1 := by decide
  have hw2 : IntKind.i64.wrap (2 : Int) = 2 := by decide
  have r0 : rd ([] : List Int) [d32 x, d32 y] 0 = d32 x := rfl
  have r1 : rd ([] : List Int) [d32 x, d32 y] 1 = d32 y := rfl
  rcases hs with rfl | rfl | rfl
  · have ht : nat_plus (d32 0) (d32 x) = some (d32 x) := by rw [nat_plus_eq (by rw [d32_zero]; simp) (by omega), Nat.zero_add]
    simp [nat_Add_b1, nat_Add_j1, r0, ht, hw1, Nx, Tot.some_iff, Tot.ass_iff, Tot.bnd_iff]
  · have ht : nat_plus (d32 x) (d32 y) = some (d32 (x + y)) := nat_plus_eq (by omega) (by omega)
    simp [nat_Add_b1, nat_Add_j1, r1, ht, hw2, Nx, Tot.some_iff, Tot.ass_iff, Tot.bnd_iff]
  · simp [nat_Add_b1, nat_Add_j1, Nx, Tot.some_iff]
end Go.Tom
