/- The document's products and quotients, and what two numbers have in common. -/
import Derived.Test.YtomdhjdgcfcjdaaGreatDoorPN2
set_option linter.unusedVariables false
set_option linter.unusedSimpArgs false
namespace Go.Tom
open Go

theorem u64i {x : Int} (h0 : 0 ≤ x) (h1 : x ≤ 18446744073709551615) : IntKind.u64.wrap x = x := IntWalk.u64_in _ (by omega)
theorem u32i {x : Int} (h0 : 0 ≤ x) (h1 : x ≤ 4294967295) : IntKind.u32.wrap x = x := IntWalk.u32_in _ (by omega)

theorem wr_set {α : Type} {l : List α} {k : Nat} {y : α} : wr l (k : Int) y = l.set k y := by simp [wr]

theorem vl_wr {B : Nat} {l : List Int} {k : Nat} {y : Int} (hk : k < l.length) : vl B (wr l (k : Int) y) = vl B l + ((B ^ k : Nat) : Int) * (y - rd 0 l (k : Int)) := by
  rw [wr_set, vl_set hk]

theorem Dg.wr {B : Nat} {l : List Int} (h : Dg B l) {k : Nat} {y : Int} (h0 : 0 ≤ y) (h1 : y < (B : Int)) : Dg B (wr l (k : Int) y) := by rw [wr_set]; exact h.set ⟨h0, h1⟩

theorem r01_Mul_eq {x y : Nat} (hx : (d16 x).length ≤ 3000000) (hy : (d16 y).length ≤ 3000000) : r01_Mul (d16 x) (d16 y) = some (d16 (x * y)) := by
  obtain ⟨m, hm⟩ : ∃ m, m = (d16 x).length := ⟨_, rfl⟩
  obtain ⟨n, hn⟩ : ∃ n, n = (d16 y).length := ⟨_, rfl⟩
  have hmx : (d16 x).length ≤ m := by omega
  have hny : (d16 y).length ≤ n := by omega
  have hxm : x < 65536 ^ m := by rw [hm]; exact dg_lt b16
  have hyn : y < 65536 ^ n := by rw [hn]; exact dg_lt b16
  have inner : ∀ (i : Nat) (d : List Int), i < m → d.length = m + n + 1 → Dg 65536 d → vl 65536 d = (((x % 65536 ^ i) * y : Nat) : Int) →
      Tot (loopM (fun z : (List Int) × Int × Int => r01_Mul_b2 (d16 x) (d16 y) (i : Int) z.1 z.2.1 z.2.2) (d, (0 : Int), (0 : Int)))
        (fun r => ∃ d', r = .inl (d', (i : Int) + 1) ∧ d'.length = m + n + 1 ∧ Dg 65536 d' ∧ vl 65536 d' = (((x % 65536 ^ (i + 1)) * y : Nat) : Int)) := by
    intro i d hi hl hd hv
    have hdx := dgt_lt (B := 65536) (x := x) (i := i) (by omega)
    have hw0 : IntKind.i64.wrap ((i : Int) + 1) = (i : Int) + 1 := w64 (by omega) (by omega)
    -- the bound of what is carried
    have hbound : ∀ (k : Nat) (d' : List Int) (o : Int), Dg 65536 d' → 0 < o → vl 65536 d' + o * ((65536 ^ (i + k) : Nat) : Int) = (((x % 65536 ^ i) * y : Nat) : Int) + ((65536 ^ i * (dgt 65536 x i * (y % 65536 ^ k)) : Nat) : Int) → k ≤ n := by
      intro k d' o hd' ho hv'
      have h0 := (vl_bound hd').1
      have h1 : 1 * ((65536 ^ (i + k) : Nat) : Int) ≤ o * ((65536 ^ (i + k) : Nat) : Int) := Int.mul_le_mul_of_nonneg_right (by omega) (Int.natCast_nonneg _)
      have h2 : 65536 ^ (i + k) ≤ (x % 65536 ^ i) * y + 65536 ^ i * (dgt 65536 x i * (y % 65536 ^ k)) := by omega
      have h3 : 65536 ^ i * (dgt 65536 x i * (y % 65536 ^ k)) ≤ 65536 ^ i * (dgt 65536 x i * y) := Nat.mul_le_mul_left _ (Nat.mul_le_mul_left _ (Nat.mod_le ..))
      have h4 : (x % 65536 ^ i) * y + 65536 ^ i * (dgt 65536 x i * y) = (x % 65536 ^ (i + 1)) * y := by rw [mod_up, Nat.add_mul, Nat.mul_assoc]
      have h5 : (x % 65536 ^ (i + 1)) * y ≤ 65536 ^ (i + 1) * y := Nat.mul_le_mul_right _ (Nat.le_of_lt (Nat.mod_lt _ (Nat.pow_pos (by omega))))
      have h6 : 65536 ^ (i + 1) * y < 65536 ^ (i + 1) * 65536 ^ n := Nat.mul_lt_mul_of_pos_left hyn (Nat.pow_pos (by omega))
      rw [← Nat.pow_add] at h6
      have h7 : 65536 ^ (i + k) < 65536 ^ (i + 1 + n) := by omega
      have := (Nat.pow_lt_pow_iff_right (show 1 < 65536 by omega)).1 h7
      omega
    refine Tot.loop (fun s => ∃ k : Nat, s.2.2 = (k : Int) ∧ k ≤ n + 1 ∧ s.1.length = m + n + 1 ∧ Dg 65536 s.1 ∧ 0 ≤ s.2.1 ∧ s.2.1 < 65536 ∧ vl 65536 s.1 + s.2.1 * ((65536 ^ (i + k) : Nat) : Int) = (((x % 65536 ^ i) * y : Nat) : Int) + ((65536 ^ i * (dgt 65536 x i * (y % 65536 ^ k)) : Nat) : Int))
      (fun s => ((n : Int) + 1 - s.2.2).toNat) (fun s hs => ?_) ⟨0, rfl, by omega, hl, hd, by simp, by simp, by simp [hv, Nat.mod_one]⟩
    obtain ⟨d, o, k0⟩ := s
    obtain ⟨k, h1, h2, h3, h4, h5, h6, h7⟩ := hs
    simp only at h1 h3 h4 h5 h6 h7
    subst h1
    have hdy := dgt_lt (B := 65536) (x := y) (i := k) (by omega)
    have hw1 : IntKind.i64.wrap ((i : Int) + (k : Int)) = ((i + k : Nat) : Int) := by rw [w64 (by omega) (by omega)]; omega
    have hdd := h4.rd (by omega) ((i + k : Nat) : Int)
    have hprod : 0 ≤ ((dgt 65536 x i : Nat) : Int) * ((dgt 65536 y k : Nat) : Int) ∧ ((dgt 65536 x i : Nat) : Int) * ((dgt 65536 y k : Nat) : Int) ≤ 4294836225 := by
      have := Nat.mul_le_mul (show dgt 65536 x i ≤ 65535 by omega) (show dgt 65536 y k ≤ 65535 by omega)
      rw [← Int.natCast_mul]
      omega
    have hw2 : IntKind.i64.wrap (((dgt 65536 x i : Nat) : Int) * ((dgt 65536 y k : Nat) : Int)) = ((dgt 65536 x i : Nat) : Int) * ((dgt 65536 y k : Nat) : Int) := w64 (by omega) (by omega)
    have hw3 : IntKind.i64.wrap (rd 0 d ((i + k : Nat) : Int) + ((dgt 65536 x i : Nat) : Int) * ((dgt 65536 y k : Nat) : Int)) = rd 0 d ((i + k : Nat) : Int) + ((dgt 65536 x i : Nat) : Int) * ((dgt 65536 y k : Nat) : Int) := w64 (by omega) (by omega)
    obtain ⟨t, ht⟩ : ∃ t, t = rd 0 d ((i + k : Nat) : Int) + ((dgt 65536 x i : Nat) : Int) * ((dgt 65536 y k : Nat) : Int) + o := ⟨_, rfl⟩
    have hw4 : IntKind.i64.wrap t = t := w64 (by omega) (by omega)
    obtain ⟨t1, t2⟩ := tdivmod (a := t) (b := 65536) (by omega)
    have hw5 : IntKind.i64.wrap (t / 65536) = t / 65536 := w64 (by omega) (by omega)
    have hw6 : IntKind.i64.wrap ((k : Int) + 1) = (k : Int) + 1 := w64 (by omega) (by omega)
    simp only [r01_Mul_b2, r01_Mul_j3, r01_Mul_j2, r01_digit_eq _ (show (0 : Int) ≤ (k : Int) by omega), rd_dgt b16, hw0, hw1, hw2, hw3, ← ht, hw4, t1, t2, hw5, hw6, cond_some, Tot.cond_iff, Tot.ass_iff, Tot.bnd_iff, Tot.some_iff, Tot.map_iff, Tot.bind_iff, Nx.inl_iff, Nx.inr_iff, decide_eq_true_eq, decide_eq_false_iff_not]
    refine ⟨fun hc => ?_, fun hc => ?_⟩
    · have hk : k ≤ n := by
        simp only [Bool.and_eq_true, Bool.or_eq_true, Bool.not_eq_true', Bool.and_eq_false_iff, Bool.or_eq_false_iff, Bool.not_eq_false', beq_iff_eq, bne_iff_ne, beq_eq_false_iff_ne, bne_eq_false_iff_eq, decide_eq_true_eq, decide_eq_false_iff_not] at hc
        rcases hc with hc | hc
        · omega
        · exact hbound k d o h4 hc h7
      have hik : i + k < d.length := by omega
      refine ⟨⟨by omega, by omega⟩, ⟨by omega, by omega⟩, by simp, ⟨by omega, by omega⟩, by simp, ⟨k + 1, by simp, by omega, by rw [wr_length]; exact h3, h4.wr (by omega) (by omega), by omega, by omega, ?_⟩, by omega⟩
      rw [vl_wr hik, mod_up (x := y), show i + (k + 1) = (i + k) + 1 from by omega, Nat.pow_succ]
      have hs : t = t / 65536 * 65536 + t % 65536 := by omega
      have e1 : 65536 ^ i * (dgt 65536 x i * (y % 65536 ^ k + 65536 ^ k * dgt 65536 y k)) = 65536 ^ i * (dgt 65536 x i * (y % 65536 ^ k)) + 65536 ^ (i + k) * (dgt 65536 x i * dgt 65536 y k) := by
        rw [Nat.pow_add]; grind
      rw [e1]
      simp only [Int.natCast_add, Int.natCast_mul] at h7 ⊢
      generalize t / 65536 = q at hs ⊢
      generalize t % 65536 = r at hs ⊢
      generalize ((65536 ^ (i + k) : Nat) : Int) = M at h7 ⊢
      have hM : M * t = M * (q * 65536 + r) := by rw [hs]
      rw [ht] at hM
      rw [show ((65536 : Nat) : Int) = 65536 from rfl]
      grind
    · simp only [Bool.and_eq_true, Bool.or_eq_true, Bool.not_eq_true', Bool.and_eq_false_iff, Bool.or_eq_false_iff, Bool.not_eq_false', beq_iff_eq, bne_iff_ne, beq_eq_false_iff_ne, bne_eq_false_iff_eq, decide_eq_true_eq, decide_eq_false_iff_not] at hc
      have ho : o = 0 := by omega
      refine ⟨d, by simp, h3, h4, ?_⟩
      rw [ho, dg_mod_len (x := y) (k := k) b16 (show (d16 y).length ≤ k by omega)] at h7
      rw [mod_up, Nat.add_mul, Nat.mul_assoc]
      rw [Int.natCast_add]
      omega
  rw [← Tot.eq_iff]
  have hw1 : IntKind.i64.wrap (((d16 x).length : Int) + ((d16 y).length : Int)) = ((m + n : Nat) : Int) := by rw [w64 (by omega) (by omega)]; omega
  have hw2 : IntKind.i64.wrap (((m + n : Nat) : Int) + 1) = ((m + n + 1 : Nat) : Int) := by rw [w64 (by omega) (by omega)]; omega
  simp only [r01_Mul, hw1, hw2, cond_some, Tot.cond_iff, Tot.ass_iff, Tot.bnd_iff, Tot.some_iff, Tot.map_iff, Tot.bind_iff, Nx.inl_iff, Nx.inr_iff, decide_eq_true_eq, decide_eq_false_iff_not]
  refine ⟨⟨by omega, Int.le_refl _, by unfold lim; omega⟩, ?_⟩
  refine Tot.loop (fun s => ∃ i : Nat, s.2 = (i : Int) ∧ i ≤ m ∧ s.1.length = m + n + 1 ∧ Dg 65536 s.1 ∧ vl 65536 s.1 = (((x % 65536 ^ i) * y : Nat) : Int))
    (fun s => ((m : Int) - s.2).toNat) (fun s hs => ?_) ⟨0, rfl, by omega, by rw [List.length_replicate]; omega, Dg.rep (by omega), by simp [vl_rep, Nat.mod_one]⟩
  obtain ⟨d, i0⟩ := s
  obtain ⟨i, h1, h2, h3, h4, h5⟩ := hs
  simp only at h1 h3 h4 h5
  subst h1
  simp only [r01_Mul_b1, r01_Mul_j1, cond_some, Tot.cond_iff, Tot.ass_iff, Tot.bnd_iff, Tot.some_iff, Tot.map_iff, Tot.bind_iff, Nx.inl_iff, Nx.inr_iff, decide_eq_true_eq, decide_eq_false_iff_not]
  refine ⟨fun hc => ?_, fun hc => ?_⟩
  · refine (inner i d (by omega) h3 h4 h5).mono fun r hr => ?_
    obtain ⟨d', rfl, k1, k2, k3⟩ := hr
    exact ⟨⟨i + 1, by simp, by omega, k1, k2, k3⟩, by simp only; omega⟩
  · have hi : i = m := by omega
    rw [r01_Cut_eq h4 (by omega)]
    rw [dg_mod_len (x := x) (k := i) b16 (show (d16 x).length ≤ i by omega)] at h5
    refine Tot.some_iff.2 ?_
    rw [h5, Int.toNat_natCast]

/-- A digit put ahead. -/
theorem vl_cons_dg {B r : Nat} {a : Int} (hB : 2 ≤ B) : vl B ([a] ++ dg B r) = a + (B : Int) * (r : Int) := by
  show a + (B : Int) * vl B (dg B r) = _
  rw [vl_dg hB]

theorem r01_Div_eq {x y : Nat} (hx : (d16 x).length ≤ 2000000) (hy : (d16 y).length ≤ 2000000) (hy0 : 0 < y) : r01_Div (d16 x) (d16 y) = some (d16 (x / y), d16 (x % y)) := by
  obtain ⟨m, hm⟩ : ∃ m, m = (d16 x).length := ⟨_, rfl⟩
  have hs16 : ∀ a : Nat, a ≤ 65535 → (d16 a).length ≤ 1 := fun a ha => dg_len b16 (by omega)
  have search : ∀ (i : Nat) (q : List Int) (R : Nat), i < m → q.length = m → Dg 65536 q → R < 65536 * y → (d16 R).length ≤ 2000001 →
      Tot (loopM (fun z : Int × Int => r01_Div_b2 (d16 y) q (i : Int) (d16 R) z.1 z.2) ((0 : Int), (65535 : Int)))
        (fun r => r = .inl (wr q (i : Int) ((R / y : Nat) : Int), d16 (R % y), (i : Int) - 1)) := by
    intro i q R hi hq hdq hR hRl
    have hRy : R / y < 65536 := Nat.div_lt_of_lt_mul (by rw [Nat.mul_comm]; exact hR)
    refine Tot.loop (fun s => ∃ lo hi : Nat, s = ((lo : Int), (hi : Int)) ∧ lo ≤ R / y ∧ R / y ≤ hi ∧ hi ≤ 65535) (fun s => (s.2 - s.1).toNat) (fun s hs => ?_) ⟨0, 65535, rfl, Nat.zero_le _, by omega, by omega⟩
    obtain ⟨lo, hi', rfl, h1, h2, h3⟩ := hs
    have hw1 : IntKind.i64.wrap ((lo : Int) + (hi' : Int)) = (lo : Int) + (hi' : Int) := w64 (by omega) (by omega)
    have hw2 : IntKind.i64.wrap ((lo : Int) + (hi' : Int) + 1) = (lo : Int) + (hi' : Int) + 1 := w64 (by omega) (by omega)
    obtain ⟨t1, t2⟩ := tdivmod (a := (lo : Int) + (hi' : Int) + 1) (b := 2) (by omega)
    have hw3 : IntKind.i64.wrap (((lo : Int) + (hi' : Int) + 1) / 2) = (((lo + hi' + 1) / 2 : Nat) : Int) := by rw [w64 (by omega) (by omega)]; omega
    have hw4 : IntKind.u64.wrap (((lo + hi' + 1) / 2 : Nat) : Int) = (((lo + hi' + 1) / 2 : Nat) : Int) := u64i (by omega) (by omega)
    have hw5 : IntKind.u64.wrap (lo : Int) = (lo : Int) := u64i (by omega) (by omega)
    have hw6 : IntKind.i64.wrap ((i : Int) - 1) = (i : Int) - 1 := w64 (by omega) (by omega)
    have hw7 : IntKind.i64.wrap ((((lo + hi' + 1) / 2 : Nat) : Int) - 1) = (((lo + hi' + 1) / 2 : Nat) : Int) - 1 := w64 (by omega) (by omega)
    obtain ⟨mid, hmid⟩ : ∃ mid, mid = (lo + hi' + 1) / 2 := ⟨_, rfl⟩
    have hml : (d16 (y * mid)).length ≤ 2000001 := by
      have := d16_mul y mid
      have := hs16 mid (by omega)
      omega
    have hmm : r01_Mul (d16 y) (d16 mid) = some (d16 (y * mid)) := r01_Mul_eq (by omega) (by have := hs16 mid (by omega); omega)
    have hmo : r01_Of (mid : Int) = some (d16 mid) := r01_Of_eq (by omega)
    have hmc : r01_Cmp (d16 (y * mid)) (d16 R) = some (cmpN (y * mid) R) := r01_Cmp_eq (by omega) (by omega)
    have hlm : r01_Mul (d16 y) (d16 lo) = some (d16 (y * lo)) := r01_Mul_eq (by omega) (by have := hs16 lo (by omega); omega)
    have hlo : r01_Of (lo : Int) = some (d16 lo) := r01_Of_eq (by omega)
    have hle : y * lo ≤ R := Nat.le_trans (Nat.mul_le_mul_left y h1) (Nat.mul_div_le R y)
    have hls : r01_Sub (d16 R) (d16 (y * lo)) = some (d16 (R - y * lo)) := r01_Sub_eq (by omega) hle
    simp only [r01_Div_b2, r01_Div_j3, r01_Div_j2, hw1, hw2, t1, hw3, ← hmid, hw5, hw6] at hw4 hw7 ⊢
    simp only [hw4, hw7, hmo, hmm, hmc, hlo, hlm, hls, Option.bind_some, cond_some, Tot.cond_iff, Tot.ass_iff, Tot.bnd_iff, Tot.some_iff, Tot.map_iff, Tot.bind_iff, Nx.inl_iff, Nx.inr_iff, decide_eq_true_eq, decide_eq_false_iff_not]
    refine ⟨fun hc => ⟨by simp, fun hcmp => ⟨⟨mid, hi', rfl, ?_, h2, h3⟩, by omega⟩, fun hcmp => ⟨⟨lo, mid - 1, by rw [show ((mid - 1 : Nat) : Int) = (mid : Int) - 1 from by omega], h1, ?_, by omega⟩, by omega⟩⟩, fun hc => ⟨⟨by omega, by omega⟩, ?_⟩⟩
    · have : y * mid ≤ R := by
        unfold cmpN at hcmp
        split at hcmp
        · omega
        · split at hcmp
          · omega
          · omega
      exact (Nat.le_div_iff_mul_le hy0).2 (by rw [Nat.mul_comm]; exact this)
    · have : R < y * mid := by
        unfold cmpN at hcmp
        split at hcmp
        · omega
        · split at hcmp
          · assumption
          · omega
      have := (Nat.div_lt_iff_lt_mul hy0).2 (show R < mid * y by rw [Nat.mul_comm]; exact this)
      omega
    · have : lo = R / y := by omega
      subst this
      have e : R - y * (R / y) = R % y := by have := Nat.mod_add_div R y; omega
      rw [e]
  rw [← Tot.eq_iff]
  have hw1 : IntKind.i64.wrap (((d16 x).length : Int) - 1) = (m : Int) - 1 := by rw [w64 (by omega) (by omega)]; omega
  simp only [r01_Div, hw1, cond_some, Tot.cond_iff, Tot.ass_iff, Tot.bnd_iff, Tot.some_iff, Tot.map_iff, Tot.bind_iff, Nx.inl_iff, Nx.inr_iff, decide_eq_true_eq, decide_eq_false_iff_not]
  refine ⟨⟨by omega, Int.le_refl _, by unfold lim; omega⟩, ?_⟩
  refine Tot.loop (fun s => ∃ k : Nat, s.2.2 = (k : Int) - 1 ∧ k ≤ m ∧ s.1.length = m ∧ Dg 65536 s.1 ∧ s.2.1 = d16 (x / 65536 ^ k % y) ∧ vl 65536 s.1 = ((65536 ^ k * (x / 65536 ^ k / y) : Nat) : Int) ∧ ∀ j : Nat, j < k → rd 0 s.1 (j : Int) = 0)
    (fun s => (s.2.2 + 1).toNat) (fun s hs => ?_) ⟨m, rfl, Nat.le_refl _, by simp [hm], Dg.rep (by omega), ?_, ?_, fun j _ => ?_⟩
  rotate_left
  · rw [dg_div_len (x := x) (k := m) b16 (show (d16 x).length ≤ m by omega)]; simp [dg_zero]
  · rw [dg_div_len (x := x) (k := m) b16 (show (d16 x).length ≤ m by omega)]; simp [vl_rep]
  · simp [rd, List.getD_eq_getElem?_getD, List.getElem?_replicate]; split <;> rfl
  obtain ⟨q, rest, i0⟩ := s
  obtain ⟨k, h1, h2, h3, h4, h5, h6, h7⟩ := hs
  simp only at h1 h3 h4 h5 h6 h7
  subst h1 h5
  rcases Nat.eq_zero_or_pos k with hk | hk
  · subst hk
    simp only [r01_Div_b1, r01_Div_j1, cond_some, Tot.cond_iff, Tot.ass_iff, Tot.bnd_iff, Tot.some_iff, Tot.map_iff, Tot.bind_iff, Nx.inl_iff, Nx.inr_iff, decide_eq_true_eq, decide_eq_false_iff_not]
    refine ⟨fun hc => absurd hc (by omega), fun _ => ?_⟩
    simp only [Nat.pow_zero, Nat.div_one, Nat.one_mul] at h6 ⊢
    rw [r01_Cut_eq h4 (by omega), h6, Int.toNat_natCast]
    exact Tot.some_iff.2 rfl
  · obtain ⟨i, rfl⟩ : ∃ i, k = i + 1 := ⟨k - 1, by omega⟩
    have hi1 : (((i + 1 : Nat) : Int) - 1) = (i : Int) := by omega
    rw [hi1]
    have hdx := dgt_lt (B := 65536) (x := x) (i := i) (by omega)
    obtain ⟨r, hr⟩ : ∃ r, r = x / 65536 ^ (i + 1) % y := ⟨_, rfl⟩
    have hry : r < y := by rw [hr]; exact Nat.mod_lt _ hy0
    have hrl : (d16 r).length ≤ 2000000 := Nat.le_trans (d16_mono (Nat.le_of_lt hry)) hy
    rw [← hr]
    have hcut : r01_Cut ([((dgt 65536 x i : Nat) : Int)] ++ d16 r) = some (d16 (dgt 65536 x i + 65536 * r)) := by
      rw [r01_Cut_eq (Dg.append.2 ⟨Dg.cons.2 ⟨⟨by omega, by omega⟩, Dg.nil⟩, dg_Dg b16⟩) (by have hrl2 : (dg 65536 r).length ≤ 2000000 := hrl; simp only [List.length_append, List.length_singleton]; omega), vl_cons_dg b16]
      have : (((dgt 65536 x i : Nat) : Int) + ((65536 : Nat) : Int) * (r : Int)).toNat = dgt 65536 x i + 65536 * r := by omega
      rw [this]
    have hRl : (d16 (dgt 65536 x i + 65536 * r)).length ≤ 2000001 := by
      have h1 : dgt 65536 x i + 65536 * r ≤ 65536 * y := by omega
      have h2 := d16_mono h1
      have h3 := d16_mul 65536 y
      have h4 : (d16 65536).length ≤ 2 := dg_len b16 (by omega)
      have h5 : dgt 65536 x i + 65536 * r < 65536 ^ ((d16 y).length + 1) := by
        rw [Nat.pow_succ, Nat.mul_comm]
        have : y < 65536 ^ (d16 y).length := dg_lt b16
        have : 65536 * (y + 1) ≤ 65536 * 65536 ^ (d16 y).length := Nat.mul_le_mul_left _ this
        omega
      exact Nat.le_trans (dg_len b16 h5) (by omega)
    simp only [r01_Div_b1, rd_dgt b16, hcut, Option.bind_some, cond_some, Tot.cond_iff, Tot.ass_iff, Tot.bnd_iff, Tot.some_iff, Tot.map_iff, Tot.bind_iff, Nx.inl_iff, Nx.inr_iff, decide_eq_true_eq, decide_eq_false_iff_not]
    refine ⟨fun _ => ⟨⟨by omega, by omega⟩, by simp only [List.length_singleton]; unfold limA; omega, ?_⟩, fun hc => absurd hc (by omega)⟩
    refine (search i q (dgt 65536 x i + 65536 * r) (by omega) h3 h4 (by omega) hRl).mono fun s hs => ?_
    subst hs
    have hRy : (dgt 65536 x i + 65536 * r) / y < 65536 := Nat.div_lt_of_lt_mul (by rw [Nat.mul_comm]; omega)
    have hxe : x / 65536 ^ i = (dgt 65536 x i + 65536 * r) + y * (65536 * (x / 65536 ^ (i + 1) / y)) := by
      rw [div_up, hr]
      have := Nat.mod_add_div (x / 65536 ^ (i + 1)) y
      have e : y * (65536 * (x / 65536 ^ (i + 1) / y)) = 65536 * (y * (x / 65536 ^ (i + 1) / y)) := Nat.mul_left_comm ..
      rw [e]
      omega
    refine ⟨⟨i, rfl, by omega, by rw [wr_length]; exact h3, h4.wr (Int.natCast_nonneg _) (by exact_mod_cast hRy), ?_, ?_, fun j hj => ?_⟩, by simp only; omega⟩
    · simp only
      rw [hxe, Nat.add_mul_mod_self_left]
    · simp only
      rw [vl_wr (by omega), h6, h7 i (by omega), hxe, Nat.add_mul_div_left _ _ hy0, Nat.pow_succ, Nat.mul_add]
      simp only [Int.natCast_add, Int.natCast_mul]
      rw [show ((65536 : Nat) : Int) = 65536 from rfl]
      grind
    · simp only
      rw [rd_wr (by omega) (by omega) (by omega), if_neg (by omega)]
      exact h7 j (by omega)

theorem r03_Gcd_eq {x y : Nat} (hx : (d16 x).length ≤ 2000000) (hy : (d16 y).length ≤ 2000000) : r03_Gcd (d16 x) (d16 y) = some (d16 (Nat.gcd x y)) := by
  rw [← Tot.eq_iff]
  unfold r03_Gcd
  refine Tot.loop (fun s => ∃ a b : Nat, s = (d16 a, d16 b) ∧ (d16 a).length ≤ 2000000 ∧ (d16 b).length ≤ 2000000 ∧ Nat.gcd a b = Nat.gcd x y) (fun s => (vl 65536 s.2).toNat) (fun s hs => ?_) ⟨x, y, rfl, hx, hy, rfl⟩
  obtain ⟨a, b, rfl, h1, h2, h3⟩ := hs
  simp only [r03_Gcd_b1, r03_Gcd_j1, cond_some, Tot.cond_iff, Tot.ass_iff, Tot.bnd_iff, Tot.some_iff, Tot.map_iff, Tot.bind_iff, Nx.inl_iff, Nx.inr_iff, decide_eq_true_eq, decide_eq_false_iff_not]
  refine ⟨fun hc => ?_, fun hc => ?_⟩
  · have hb : 0 < b := by
      rcases Nat.eq_zero_or_pos b with h0 | h0
      · subst h0; rw [d16, dg_zero] at hc; simp at hc
      · exact h0
    rw [r01_Div_eq h1 h2 hb]
    have hlt := Nat.mod_lt a hb
    refine Tot.some_iff.2 ⟨⟨b, a % b, rfl, h2, Nat.le_trans (d16_mono (Nat.le_of_lt hlt)) h2, by rw [Nat.gcd_comm b, ← Nat.gcd_rec, Nat.gcd_comm, h3]⟩, ?_⟩
    simp only [d16, vl_dg b16]
    omega
  · have hb : b = 0 := (dg_nil b16).1 (List.eq_nil_of_length_eq_zero (by simp only [d16] at hc ⊢; omega))
    subst hb
    rw [Nat.gcd_zero_right] at h3
    rw [h3]
end Go.Tom
