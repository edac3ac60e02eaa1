/- The document's order, sums, differences. -/
import Derived.Test.YtomdhjdgcfcjdaaGreatDoorPN1
set_option linter.unusedVariables false
set_option linter.unusedSimpArgs false
namespace Go.Tom
open Go

/-- Digit i of a number. -/
def dgt (B x i : Nat) : Nat := x / B ^ i % B

theorem dgt_lt {B x i : Nat} (hB : 0 < B) : dgt B x i < B := Nat.mod_lt _ hB

theorem rd_dgt {B x : Nat} (hB : 2 ≤ B) (i : Nat) : rd 0 (dg B x) (i : Int) = ((dgt B x i : Nat) : Int) := rd_dg hB i

theorem div_up {B x i : Nat} : x / B ^ i = B * (x / B ^ (i + 1)) + dgt B x i := by
  have := Nat.div_add_mod (x / B ^ i) B
  rw [Nat.div_div_eq_div_mul, ← Nat.pow_succ] at this
  exact this.symm

theorem mod_up {B x i : Nat} : x % B ^ (i + 1) = x % B ^ i + B ^ i * dgt B x i := Nat.mod_pow_succ

theorem cmp_lt {B i x y : Nat} (h : x / B ^ (i + 1) = y / B ^ (i + 1)) (hd : dgt B x i < dgt B y i) : x < y := by
  rcases Nat.lt_or_ge x y with hc | hc
  · exact hc
  · have h1 : y / B ^ i ≤ x / B ^ i := Nat.div_le_div_right hc
    rw [div_up (x := x), div_up (x := y), h] at h1
    omega

theorem cmp_eq {B i x y : Nat} (h : x / B ^ (i + 1) = y / B ^ (i + 1)) (hd : dgt B x i = dgt B y i) : x / B ^ i = y / B ^ i := by
  rw [div_up (x := x), div_up (x := y), h, hd]

/-- Which one is greater. -/
def cmpN (x y : Nat) : Int := if x < y then -1 else if y < x then 1 else 0

theorem r01_digit_eq (l : List Int) {i : Int} (h : 0 ≤ i) : r01_digit l i = some (rd 0 l i) := by
  rw [← Tot.eq_iff]
  simp only [r01_digit, cond_some, Tot.cond_iff, Tot.ass_iff, Tot.bnd_iff, Tot.some_iff, Tot.map_iff, Tot.bind_iff, Nx.inl_iff, Nx.inr_iff, decide_eq_true_eq, decide_eq_false_iff_not]
  refine ⟨fun hc => ⟨⟨h, hc⟩, by trivial⟩, fun hc => ?_⟩
  unfold rd
  rw [List.getD_eq_getElem?_getD, List.getElem?_eq_none (by omega)]
  rfl

theorem dg_div_len {B x k : Nat} (hB : 2 ≤ B) (h : (dg B x).length ≤ k) : x / B ^ k = 0 := Nat.div_eq_of_lt (Nat.lt_of_lt_of_le (dg_lt hB) (Nat.pow_le_pow_right (by omega) h))
theorem dg_mod_len {B x k : Nat} (hB : 2 ≤ B) (h : (dg B x).length ≤ k) : x % B ^ k = x := Nat.mod_eq_of_lt (Nat.lt_of_lt_of_le (dg_lt hB) (Nat.pow_le_pow_right (by omega) h))

theorem r01_Cmp_eq {x y : Nat} (hx : (d16 x).length ≤ 10000000) (hy : (d16 y).length ≤ 10000000) : r01_Cmp (d16 x) (d16 y) = some (cmpN x y) := by
  have key : ∀ n : Nat, (d16 x).length ≤ n → (d16 y).length ≤ n → n ≤ 10000000 → r01_Cmp_j1 (d16 x) (d16 y) (n : Int) = some (cmpN x y) := by
    intro n h1 h2 h3
    rw [← Tot.eq_iff]
    have hw : IntKind.i64.wrap ((n : Int) - 1) = (n : Int) - 1 := w64 (by omega) (by omega)
    simp only [r01_Cmp_j1, hw, cond_some, Tot.cond_iff, Tot.ass_iff, Tot.bnd_iff, Tot.some_iff, Tot.map_iff, Tot.bind_iff, Nx.inl_iff, Nx.inr_iff, decide_eq_true_eq, decide_eq_false_iff_not]
    refine Tot.loop (fun i => ∃ k : Nat, i = (k : Int) - 1 ∧ k ≤ n ∧ x / 65536 ^ k = y / 65536 ^ k) (fun i => (i + 1).toNat) (fun i hi => ?_) ⟨n, rfl, Nat.le_refl _, by rw [dg_div_len b16 h1, dg_div_len b16 h2]⟩
    obtain ⟨k, rfl, hk, he⟩ := hi
    rcases Nat.eq_zero_or_pos k with hk0 | hk0
    · subst hk0
      simp only [r01_Cmp_b1, r01_Cmp_j2, cond_some, Tot.cond_iff, Tot.ass_iff, Tot.bnd_iff, Tot.some_iff, Tot.map_iff, Tot.bind_iff, Nx.inl_iff, Nx.inr_iff, decide_eq_true_eq, decide_eq_false_iff_not]
      refine ⟨fun hc => absurd hc (by omega), fun _ => ?_⟩
      simp only [Nat.pow_zero, Nat.div_one] at he
      simp [cmpN, he]
    · obtain ⟨j, rfl⟩ : ∃ j, k = j + 1 := ⟨k - 1, by omega⟩
      have hj : (((j + 1 : Nat) : Int) - 1) = (j : Int) := by omega
      have hw2 : IntKind.i64.wrap ((j : Int) - 1) = (j : Int) - 1 := w64 (by omega) (by omega)
      rw [hj]
      simp only [r01_Cmp_b1, r01_Cmp_j2, r01_digit_eq _ (show (0 : Int) ≤ (j : Int) by omega), rd_dgt b16, hw2, cond_some, Tot.cond_iff, Tot.ass_iff, Tot.bnd_iff, Tot.some_iff, Tot.map_iff, Tot.bind_iff, Nx.inl_iff, Nx.inr_iff, decide_eq_true_eq, decide_eq_false_iff_not]
      refine ⟨fun _ => ⟨fun hc => ?_, fun hc => ⟨fun hd => ?_, fun hd => ⟨⟨j, rfl, by omega, cmp_eq he (by omega)⟩, by omega⟩⟩⟩, fun hc => absurd hc (by omega)⟩
      · have := cmp_lt he (by omega)
        simp [cmpN, this]
      · have := cmp_lt he.symm (by omega)
        simp only [cmpN]
        rw [if_neg (by omega), if_pos this]
  rw [← Tot.eq_iff]
  simp only [r01_Cmp, cond_some, Tot.cond_iff, Tot.ass_iff, Tot.bnd_iff, Tot.some_iff, Tot.map_iff, Tot.bind_iff, Nx.inl_iff, Nx.inr_iff, decide_eq_true_eq, decide_eq_false_iff_not]
  refine ⟨fun hc => ?_, fun hc => ?_⟩
  · rw [key _ (by omega) (Nat.le_refl _) hy]; exact Tot.some_iff.2 rfl
  · rw [key _ (Nat.le_refl _) (by omega) hx]; exact Tot.some_iff.2 rfl

/-- A digit put behind. -/
theorem vl_snoc {B : Nat} {l : List Int} {d : Int} : vl B (l ++ [d]) = vl B l + ((B ^ l.length : Nat) : Int) * d := by
  rw [vl_append]; simp [vl]

theorem Dg.snoc {B : Nat} {l : List Int} {d : Int} (h : Dg B l) (h0 : 0 ≤ d) (h1 : d < (B : Int)) : Dg B (l ++ [d]) := Dg.append.2 ⟨h, Dg.cons.2 ⟨⟨h0, h1⟩, Dg.nil⟩⟩

theorem cast_up {B x i : Nat} : ((x % B ^ (i + 1) : Nat) : Int) = ((x % B ^ i : Nat) : Int) + ((B ^ i : Nat) : Int) * ((dgt B x i : Nat) : Int) := by
  rw [mod_up, Int.natCast_add, Int.natCast_mul]

theorem r01_Sub_eq {x y : Nat} (hx : (d16 x).length ≤ 9000000) (hyx : y ≤ x) : r01_Sub (d16 x) (d16 y) = some (d16 (x - y)) := by
  rw [← Tot.eq_iff]
  unfold r01_Sub
  refine Tot.loop (fun s => ∃ i : Nat, s.2.2 = (i : Int) ∧ i ≤ (d16 x).length ∧ s.1.length = i ∧ Dg 65536 s.1 ∧ (s.2.1 = 0 ∨ s.2.1 = 1) ∧ vl 65536 s.1 = ((x % 65536 ^ i : Nat) : Int) - ((y % 65536 ^ i : Nat) : Int) + s.2.1 * ((65536 ^ i : Nat) : Int))
    (fun s => (((d16 x).length : Int) - s.2.2).toNat) (fun s hs => ?_) ⟨0, rfl, by omega, rfl, Dg.nil, .inl rfl, by simp [vl, Nat.mod_one]⟩
  obtain ⟨l, u, i0⟩ := s
  obtain ⟨i, h1, h2, h3, h4, h5, h6⟩ := hs
  simp only at h1 h3 h4 h5 h6
  subst h1
  have hdx := dgt_lt (B := 65536) (x := x) (i := i) (by omega)
  have hdy := dgt_lt (B := 65536) (x := y) (i := i) (by omega)
  have hw1 : IntKind.i64.wrap (((dgt 65536 x i : Nat) : Int) - ((dgt 65536 y i : Nat) : Int)) = ((dgt 65536 x i : Nat) : Int) - ((dgt 65536 y i : Nat) : Int) := w64 (by omega) (by omega)
  have hw2 : IntKind.i64.wrap (((dgt 65536 x i : Nat) : Int) - ((dgt 65536 y i : Nat) : Int) - u) = ((dgt 65536 x i : Nat) : Int) - ((dgt 65536 y i : Nat) : Int) - u := w64 (by omega) (by omega)
  have hw3 : IntKind.i64.wrap ((i : Int) + 1) = (i : Int) + 1 := w64 (by omega) (by omega)
  have hw4 : IntKind.i64.wrap (((dgt 65536 x i : Nat) : Int) - ((dgt 65536 y i : Nat) : Int) - u + 65536) = ((dgt 65536 x i : Nat) : Int) - ((dgt 65536 y i : Nat) : Int) - u + 65536 := w64 (by omega) (by omega)
  have step : ∀ (d u' : Int), ((dgt 65536 x i : Nat) : Int) - ((dgt 65536 y i : Nat) : Int) - u = d - u' * 65536 → vl 65536 (l ++ [d]) = ((x % 65536 ^ (i + 1) : Nat) : Int) - ((y % 65536 ^ (i + 1) : Nat) : Int) + u' * ((65536 ^ (i + 1) : Nat) : Int) := by
    intro d u' hd
    rw [vl_snoc, h6, h3, cast_up, cast_up, Nat.pow_succ, Int.natCast_mul]
    generalize ((65536 ^ i : Nat) : Int) = M
    have : d = ((dgt 65536 x i : Nat) : Int) - ((dgt 65536 y i : Nat) : Int) - u + u' * 65536 := by omega
    rw [this, show ((65536 : Nat) : Int) = 65536 from rfl]
    grind
  simp only [r01_Sub_b1, r01_Sub_j1, r01_Sub_j2, r01_digit_eq _ (show (0 : Int) ≤ (i : Int) by omega), rd_dgt b16, hw1, hw2, hw3, hw4, cond_some, Tot.cond_iff, Tot.ass_iff, Tot.bnd_iff, Tot.some_iff, Tot.map_iff, Tot.bind_iff, Nx.inl_iff, Nx.inr_iff, decide_eq_true_eq, decide_eq_false_iff_not]
  have hlim : (((l.length + 1 : Nat) : Nat) : Int) ≤ limA := by unfold limA; omega
  refine ⟨fun hlt => ⟨fun hneg => ⟨by simpa using hlim, ⟨i + 1, by simp, by omega, by simp [h3], h4.snoc ?_ ?_, by simp, step _ 1 (by omega)⟩, ?_⟩,
    fun hneg => ⟨by simpa using hlim, ⟨i + 1, by simp, by omega, by simp [h3], h4.snoc ?_ ?_, by simp, step _ 0 (by omega)⟩, ?_⟩⟩, fun hge => ?_⟩
  · omega
  · omega
  · omega
  · omega
  · omega
  · omega
  have hi : i = (d16 x).length := by omega
  have hly : (d16 y).length ≤ i := by rw [hi]; exact d16_mono hyx
  rw [r01_Cut_eq h4 (by omega)]
  rw [dg_mod_len (x := x) (k := i) b16 (show (d16 x).length ≤ i by omega), dg_mod_len b16 hly] at h6
  have hb := (vl_bound h4).2
  rw [h3] at hb
  have hu : u = 0 := by
    rcases h5 with h5 | h5
    · exact h5
    · exfalso; rw [h5] at h6; omega
  rw [hu] at h6
  refine Tot.some_iff.2 ?_
  congr 1
  omega

theorem tdivmod {a b : Int} (h0 : 0 ≤ a) : a.tdiv b = a / b ∧ a.tmod b = a % b := ⟨Int.tdiv_eq_ediv_of_nonneg h0, Int.tmod_eq_emod_of_nonneg h0⟩

theorem r01_Add_eq {x y : Nat} (hx : (d16 x).length ≤ 9000000) (hy : (d16 y).length ≤ 9000000) : r01_Add (d16 x) (d16 y) = some (d16 (x + y)) := by
  rw [← Tot.eq_iff]
  unfold r01_Add
  obtain ⟨m, hm⟩ : ∃ m, m = max (d16 x).length (d16 y).length := ⟨_, rfl⟩
  refine Tot.loop (fun s => ∃ i : Nat, s.2.2 = (i : Int) ∧ i ≤ m + 1 ∧ s.1.length = i ∧ Dg 65536 s.1 ∧ (s.2.1 = 0 ∨ s.2.1 = 1) ∧ (i = m + 1 → s.2.1 = 0) ∧ vl 65536 s.1 + s.2.1 * ((65536 ^ i : Nat) : Int) = ((x % 65536 ^ i : Nat) : Int) + ((y % 65536 ^ i : Nat) : Int))
    (fun s => ((m : Int) + 1 - s.2.2).toNat) (fun s hs => ?_) ⟨0, rfl, by omega, rfl, Dg.nil, .inl rfl, fun _ => rfl, by simp [vl, Nat.mod_one]⟩
  obtain ⟨l, u, i0⟩ := s
  obtain ⟨i, h1, h2, h3, h4, h5, h5', h6⟩ := hs
  simp only at h1 h3 h4 h5 h5' h6
  subst h1
  have hdx := dgt_lt (B := 65536) (x := x) (i := i) (by omega)
  have hdy := dgt_lt (B := 65536) (x := y) (i := i) (by omega)
  have hw1 : IntKind.i64.wrap (((dgt 65536 x i : Nat) : Int) + ((dgt 65536 y i : Nat) : Int)) = ((dgt 65536 x i : Nat) : Int) + ((dgt 65536 y i : Nat) : Int) := w64 (by omega) (by omega)
  have hw2 : IntKind.i64.wrap (((dgt 65536 x i : Nat) : Int) + ((dgt 65536 y i : Nat) : Int) + u) = ((dgt 65536 x i : Nat) : Int) + ((dgt 65536 y i : Nat) : Int) + u := w64 (by omega) (by omega)
  have hw3 : IntKind.i64.wrap ((i : Int) + 1) = (i : Int) + 1 := w64 (by omega) (by omega)
  obtain ⟨t1, t2⟩ := tdivmod (a := ((dgt 65536 x i : Nat) : Int) + ((dgt 65536 y i : Nat) : Int) + u) (b := 65536) (by omega)
  have hw4 : IntKind.i64.wrap ((((dgt 65536 x i : Nat) : Int) + ((dgt 65536 y i : Nat) : Int) + u) / 65536) = (((dgt 65536 x i : Nat) : Int) + ((dgt 65536 y i : Nat) : Int) + u) / 65536 := w64 (by omega) (by omega)
  simp only [r01_Add_b1, r01_Add_j1, r01_digit_eq _ (show (0 : Int) ≤ (i : Int) by omega), rd_dgt b16, hw1, hw2, hw3, t1, t2, hw4, cond_some, Tot.cond_iff, Tot.ass_iff, Tot.bnd_iff, Tot.some_iff, Tot.map_iff, Tot.bind_iff, Nx.inl_iff, Nx.inr_iff, decide_eq_true_eq, decide_eq_false_iff_not]
  refine ⟨fun hc => ?_, fun hc => ?_⟩
  · have hi : i ≤ m := by
      simp only [Bool.and_eq_true, Bool.or_eq_true, Bool.not_eq_true', Bool.and_eq_false_iff, Bool.or_eq_false_iff, Bool.not_eq_false', beq_iff_eq, bne_iff_ne, beq_eq_false_iff_ne, bne_eq_false_iff_eq, decide_eq_true_eq, decide_eq_false_iff_not] at hc
      rcases Nat.lt_or_ge m i with hmi | hmi
      · have := h5' (by omega)
        omega
      · exact hmi
    refine ⟨by simp, by simp only [List.length_singleton]; unfold limA; omega, by simp, ⟨i + 1, by simp, by omega, by simp [h3], h4.snoc (by omega) (by omega), by omega, fun him => ?_, ?_⟩, by omega⟩
    · have e1 : dgt 65536 x i = 0 := by unfold dgt; rw [dg_div_len (x := x) (k := i) b16 (show (d16 x).length ≤ i by omega)]
      have e2 : dgt 65536 y i = 0 := by unfold dgt; rw [dg_div_len (x := y) (k := i) b16 (show (d16 y).length ≤ i by omega)]
      rw [e1, e2]
      omega
    · rw [vl_snoc, h3, cast_up, cast_up, Nat.pow_succ, Int.natCast_mul]
      have hs : (((dgt 65536 x i : Nat) : Int) + ((dgt 65536 y i : Nat) : Int) + u) = (((dgt 65536 x i : Nat) : Int) + ((dgt 65536 y i : Nat) : Int) + u) / 65536 * 65536 + (((dgt 65536 x i : Nat) : Int) + ((dgt 65536 y i : Nat) : Int) + u) % 65536 := by omega
      generalize (((dgt 65536 x i : Nat) : Int) + ((dgt 65536 y i : Nat) : Int) + u) / 65536 = q at hs ⊢
      generalize (((dgt 65536 x i : Nat) : Int) + ((dgt 65536 y i : Nat) : Int) + u) % 65536 = r at hs ⊢
      generalize ((65536 ^ i : Nat) : Int) = M at h6 ⊢
      have : M * (((dgt 65536 x i : Nat) : Int) + ((dgt 65536 y i : Nat) : Int) + u) = M * (q * 65536 + r) := by rw [hs]
      grind
  · simp only [Bool.and_eq_true, Bool.or_eq_true, Bool.not_eq_true', Bool.and_eq_false_iff, Bool.or_eq_false_iff, Bool.not_eq_false', beq_iff_eq, bne_iff_ne, beq_eq_false_iff_ne, bne_eq_false_iff_eq, decide_eq_true_eq, decide_eq_false_iff_not] at hc
    have hi : (d16 x).length ≤ i ∧ (d16 y).length ≤ i := by omega
    rw [dg_mod_len b16 hi.1, dg_mod_len b16 hi.2] at h6
    rw [r01_Cut_eq h4 (by omega)]
    have hu : u = 0 := by omega
    rw [hu] at h6
    refine Tot.some_iff.2 ?_
    congr 1
    omega
end Go.Tom
