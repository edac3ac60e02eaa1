/- The guess of a digit of a quotient, by the program. -/
import Derived.Test.YtomdhjdgcfcjdaaGreatDoorPN7
set_option linter.unusedVariables false
set_option linter.unusedSimpArgs false
namespace Go.Tom
open Go

theorem rd_num {l : List Int} {U : Nat} (h : Dg 4294967296 l) (hU : vl 4294967296 l = (U : Int)) (i : Nat) : rd 0 l (i : Int) = ((dgt 4294967296 U i : Nat) : Int) := by
  rw [rd_vl b32 h, hU]
  unfold dgt
  simp only [Int.natCast_emod, Int.natCast_ediv]

theorem dgt_div {U i j : Nat} : dgt 4294967296 (U / 4294967296 ^ j) i = dgt 4294967296 U (j + i) := by
  unfold dgt
  rw [Nat.div_div_eq_div_mul, ← Nat.pow_add]

/-- A number's three top digits, and what lies below. -/
theorem top3 {W k : Nat} (h : W < 4294967296 ^ (k + 3)) : (W : Int) = ((((dgt 4294967296 W (k + 2) : Nat) : Int) * 4294967296 + ((dgt 4294967296 W (k + 1) : Nat) : Int)) * 4294967296 + ((dgt 4294967296 W k : Nat) : Int)) * ((4294967296 ^ k : Nat) : Int) + ((W % 4294967296 ^ k : Nat) : Int) := by
  have e : W % 4294967296 ^ (k + 2 + 1) = W := Nat.mod_eq_of_lt h
  rw [mod_up, show k + 2 = k + 1 + 1 from rfl, mod_up, mod_up] at e
  simp only [Nat.pow_succ] at e
  have e2 : ((W % 4294967296 ^ k + 4294967296 ^ k * dgt 4294967296 W k + 4294967296 ^ k * 4294967296 * dgt 4294967296 W (k + 1) + 4294967296 ^ k * 4294967296 * 4294967296 * dgt 4294967296 W (k + 1 + 1) : Nat) : Int) = (W : Int) := by rw [e]
  rw [← e2]
  simp only [Int.natCast_add, Int.natCast_mul]
  rw [show ((4294967296 : Nat) : Int) = 4294967296 from rfl, show k + 2 = k + 1 + 1 from rfl]
  grind

theorem top2 {W k : Nat} (h : W < 4294967296 ^ (k + 2)) : (W : Int) = (((dgt 4294967296 W (k + 1) : Nat) : Int) * 4294967296 + ((dgt 4294967296 W k : Nat) : Int)) * ((4294967296 ^ k : Nat) : Int) + ((W % 4294967296 ^ k : Nat) : Int) := by
  have e : W % 4294967296 ^ (k + 1 + 1) = W := Nat.mod_eq_of_lt h
  rw [mod_up, mod_up, Nat.pow_succ] at e
  have e2 : ((W % 4294967296 ^ k + 4294967296 ^ k * dgt 4294967296 W k + 4294967296 ^ k * 4294967296 * dgt 4294967296 W (k + 1) : Nat) : Int) = (W : Int) := by rw [e]
  rw [← e2]
  simp only [Int.natCast_add, Int.natCast_mul]
  rw [show ((4294967296 : Nat) : Int) = 4294967296 from rfl]
  grind

theorem nat_guess_tot {u : List Int} {U Y n j : Nat} (hu : Dg 4294967296 u) (hU : vl 4294967296 u = (U : Int)) (hv : (d32 Y).length = n) (hn : 2 ≤ n) (htop : 4294967296 ≤ 2 * dgt 4294967296 Y (n - 1)) (hj : j + n < u.length) (hlen : u.length ≤ 5000000) (hlt : U < Y * 4294967296 ^ (j + 1)) :
    Tot (nat_guess u (d32 Y) (j : Int)) (fun q => ∃ g : Nat, q = (g : Int) ∧ g < 4294967296 ∧ U / 4294967296 ^ j / Y ≤ g ∧ g ≤ U / 4294967296 ^ j / Y + 1) := by
  obtain ⟨k, rfl⟩ : ∃ k, n = k + 2 := ⟨n - 2, by omega⟩
  obtain ⟨W, hW⟩ : ∃ W, W = U / 4294967296 ^ j := ⟨_, rfl⟩
  have hYlt : Y < 4294967296 ^ (k + 2) := by rw [← hv]; exact dg_lt b32
  have hWlt : W < 4294967296 * Y := by
    rw [hW]
    refine Nat.div_lt_of_lt_mul ?_
    rw [Nat.pow_succ] at hlt
    calc U < Y * (4294967296 ^ j * 4294967296) := hlt
      _ = 4294967296 ^ j * (4294967296 * Y) := by rw [Nat.mul_comm Y, Nat.mul_assoc]
  have hW3 : W < 4294967296 ^ (k + 3) := by
    rw [Nat.pow_succ]
    have : 4294967296 * Y ≤ 4294967296 * 4294967296 ^ (k + 2) := Nat.mul_le_mul_left _ (Nat.le_of_lt hYlt)
    omega
  have eY := top2 hYlt
  have eW := top3 hW3
  have hY0 : 0 < Y := by
    rcases Nat.eq_zero_or_pos Y with h | h
    · rw [h, Nat.mul_zero] at hWlt; omega
    · exact h
  rw [show k + 2 - 1 = k + 1 from rfl] at htop
  obtain ⟨v1, h1⟩ : ∃ v1 : Int, v1 = ((dgt 4294967296 Y (k + 1) : Nat) : Int) := ⟨_, rfl⟩
  obtain ⟨v2, h2⟩ : ∃ v2 : Int, v2 = ((dgt 4294967296 Y k : Nat) : Int) := ⟨_, rfl⟩
  obtain ⟨v3, h3⟩ : ∃ v3 : Int, v3 = ((Y % 4294967296 ^ k : Nat) : Int) := ⟨_, rfl⟩
  obtain ⟨u0, g0⟩ : ∃ u0 : Int, u0 = ((dgt 4294967296 W (k + 2) : Nat) : Int) := ⟨_, rfl⟩
  obtain ⟨u1, g1⟩ : ∃ u1 : Int, u1 = ((dgt 4294967296 W (k + 1) : Nat) : Int) := ⟨_, rfl⟩
  obtain ⟨u2, g2⟩ : ∃ u2 : Int, u2 = ((dgt 4294967296 W k : Nat) : Int) := ⟨_, rfl⟩
  obtain ⟨u3, g3⟩ : ∃ u3 : Int, u3 = ((W % 4294967296 ^ k : Nat) : Int) := ⟨_, rfl⟩
  obtain ⟨M, hM⟩ : ∃ M : Int, M = ((4294967296 ^ k : Nat) : Int) := ⟨_, rfl⟩
  have hMp : 0 < M := by rw [hM]; exact_mod_cast Nat.pow_pos (show 0 < 4294967296 by omega)
  have d1 := dgt_lt (B := 4294967296) (x := Y) (i := k + 1) (by omega)
  have d2 := dgt_lt (B := 4294967296) (x := Y) (i := k) (by omega)
  have d3 : Y % 4294967296 ^ k < 4294967296 ^ k := Nat.mod_lt _ (Nat.pow_pos (by omega))
  have f0 := dgt_lt (B := 4294967296) (x := W) (i := k + 2) (by omega)
  have f1 := dgt_lt (B := 4294967296) (x := W) (i := k + 1) (by omega)
  have f2 := dgt_lt (B := 4294967296) (x := W) (i := k) (by omega)
  have f3 : W % 4294967296 ^ k < 4294967296 ^ k := Nat.mod_lt _ (Nat.pow_pos (by omega))
  rw [← h1, ← h2, ← h3, ← hM] at eY
  rw [← g0, ← g1, ← g2, ← g3, ← hM] at eW
  have hWlt' : (W : Int) < 4294967296 * (Y : Int) := by omega
  have kn : KnP 4294967296 M v1 v2 v3 u0 u1 u2 u3 := by
    refine ⟨by omega, hMp, by omega, by omega, by omega, by omega, by omega, by rw [h3, hM]; exact_mod_cast d3, by omega, by omega, by omega, by omega, by omega, by omega, by rw [g3, hM]; exact_mod_cast f3, ?_⟩
    rw [← eY, ← eW]
    exact hWlt'
  have r0 : rd 0 u ((j + (k + 2) : Nat) : Int) = u0 := by rw [rd_num hu hU, g0, hW, dgt_div]
  have r1 : rd 0 u ((j + (k + 1) : Nat) : Int) = u1 := by rw [rd_num hu hU, g1, hW, dgt_div]
  have r2 : rd 0 u ((j + k : Nat) : Int) = u2 := by rw [rd_num hu hU, g2, hW, dgt_div]
  have s1 : rd 0 (d32 Y) ((k + 1 : Nat) : Int) = v1 := by rw [rd_dgt b32, h1]
  have s2 : rd 0 (d32 Y) (k : Int) = v2 := by rw [rd_dgt b32, h2]
  have w1 : IntKind.i64.wrap ((j : Int) + ((d32 Y).length : Int)) = ((j + (k + 2) : Nat) : Int) := by rw [w64 (by omega) (by omega)]; omega
  have w2 : IntKind.i64.wrap (((j + (k + 2) : Nat) : Int) - 1) = ((j + (k + 1) : Nat) : Int) := by rw [w64 (by omega) (by omega)]; omega
  have w3 : IntKind.i64.wrap (((j + (k + 2) : Nat) : Int) - 2) = ((j + k : Nat) : Int) := by rw [w64 (by omega) (by omega)]; omega
  have w4 : IntKind.i64.wrap (((d32 Y).length : Int) - 1) = ((k + 1 : Nat) : Int) := by rw [w64 (by omega) (by omega)]; omega
  have w5 : IntKind.i64.wrap (((d32 Y).length : Int) - 2) = (k : Int) := by rw [w64 (by omega) (by omega)]; omega
  have x0 : IntKind.u64.wrap u0 = u0 := u64i (by omega) (by omega)
  have xv1 : IntKind.u64.wrap v1 = v1 := u64i (by omega) (by omega)
  have xv2 : IntKind.u64.wrap v2 = v2 := u64i (by omega) (by omega)
  have o1 := or32 (h := u0) (l := u1) (by omega) (by omega) (by omega) (by omega)
  have x1 : IntKind.u64.wrap (u1 + 4294967296 * u0) = u1 + 4294967296 * u0 := u64i (by omega) (by omega)
  obtain ⟨e1, e2⟩ := tdivmod (a := u1 + 4294967296 * u0) (b := v1) (by omega)
  have hv1 : 0 < v1 := by omega
  obtain ⟨Q, hQ⟩ : ∃ Q, Q = (u1 + 4294967296 * u0) / v1 := ⟨_, rfl⟩
  obtain ⟨R, hR⟩ : ∃ R, R = (u1 + 4294967296 * u0) % v1 := ⟨_, rfl⟩
  have hQ0 : 0 ≤ Q := by rw [hQ]; exact Int.ediv_nonneg (by omega) (by omega)
  have hQ1 : Q ≤ u1 + 4294967296 * u0 := by rw [hQ]; exact Int.ediv_le_self _ (by omega)
  have hR0 : 0 ≤ R := by rw [hR]; exact Int.emod_nonneg _ (by omega)
  have hR1 : R < v1 := by rw [hR]; exact Int.emod_lt_of_pos _ hv1
  have hQR : Q * v1 + R = u0 * 4294967296 + u1 := by
    have := Int.mul_ediv_add_emod (u1 + 4294967296 * u0) v1
    rw [← hQ, ← hR] at this
    rw [Int.mul_comm Q]
    omega
  have hQW : (W : Int) < (Q + 1) * (Y : Int) := by
    have a1 : (u0 * 4294967296 + u1 + 1) ≤ (Q + 1) * v1 := by
      have : (Q + 1) * v1 = Q * v1 + v1 := by rw [Int.add_mul, Int.one_mul]
      omega
    have a2 : (u0 * 4294967296 + u1 + 1) * (4294967296 * M) ≤ ((Q + 1) * v1) * (4294967296 * M) := Int.mul_le_mul_of_nonneg_right a1 (Int.mul_nonneg (by omega) (by omega))
    have a3 : (u2 + 1) * M ≤ 4294967296 * M := Int.mul_le_mul_of_nonneg_right (by omega) (by omega)
    have a4 : 0 ≤ (Q + 1) * (v2 * M + v3) := Int.mul_nonneg (by omega) (Int.add_nonneg (Int.mul_nonneg (by omega) (by omega)) (by omega))
    have a5 : u3 < M := by rw [g3, hM]; exact_mod_cast f3
    rw [eW, eY]
    grind
  have xQ : IntKind.u64.wrap Q = Q := u64i (by omega) (by omega)
  -- what a guess is good for
  have good : ∀ g : Int, 0 ≤ g → (W : Int) < (g + 1) * (Y : Int) → (g < 4294967296 ∧ (g - 1) * ((v1 * 4294967296 + v2) * M + v3) ≤ ((u0 * 4294967296 + u1) * 4294967296 + u2) * M + u3) → ∃ g' : Nat, g = (g' : Int) ∧ g' < 4294967296 ∧ W / Y ≤ g' ∧ g' ≤ W / Y + 1 := by
    rintro g g0' hg ⟨hg1, hg2⟩
    rw [← eY, ← eW] at hg2
    obtain ⟨g, rfl⟩ := Int.eq_ofNat_of_zero_le g0'
    refine ⟨g, rfl, by omega, ?_, ?_⟩
    · have : W < (g + 1) * Y := by exact_mod_cast hg
      have := Nat.div_lt_of_lt_mul (show W < Y * (g + 1) by rw [Nat.mul_comm]; exact this)
      omega
    · rcases Nat.eq_zero_or_pos g with h | h
      · rw [h]; exact Nat.zero_le _
      · obtain ⟨g, rfl⟩ : ∃ g', g = g' + 1 := ⟨g - 1, by omega⟩
        have e : ((g + 1 : Nat) : Int) - 1 = (g : Int) := by omega
        rw [e] at hg2
        have : g * Y ≤ W := by exact_mod_cast hg2
        have := (Nat.le_div_iff_mul_le hY0).2 this
        omega
  rw [← hW]
  simp only [nat_guess, w1, w2, w4, r0, r1, s1, x0, xv1, o1, x1, e1, e2, ← hQ, ← hR, xQ, cond_some, Tot.cond_iff, Tot.ass_iff, Tot.bnd_iff, Tot.some_iff, Tot.map_iff, Tot.bind_iff, Nx.inl_iff, Nx.inr_iff, decide_eq_true_eq, decide_eq_false_iff_not]
  refine ⟨⟨by omega, by omega⟩, by omega, ⟨by omega, by omega⟩, ⟨by omega, by omega⟩, by omega, ?_⟩
  refine Tot.loop (fun z => 0 ≤ z.1 ∧ z.1 ≤ 18446744073709551615 ∧ 0 ≤ z.2 ∧ z.2 < 4294967296 ∧ z.1 * v1 + z.2 = u0 * 4294967296 + u1 ∧ (W : Int) < (z.1 + 1) * (Y : Int)) (fun z => z.1.toNat) (fun z hz => ?_) ⟨hQ0, by omega, hR0, by omega, hQR, hQW⟩
  obtain ⟨q, r⟩ := z
  obtain ⟨z1, z2, z3, z4, z5, z6⟩ := hz
  simp only at z1 z2 z3 z4 z5 z6
  have o2 := or32 (h := r) (l := u2) z3 z4 (by omega) (by omega)
  have x2 : IntKind.u64.wrap (u2 + 4294967296 * r) = u2 + 4294967296 * r := u64i (by omega) (by omega)
  have x4 : IntKind.u64.wrap (r + v1) = r + v1 := u64i (by omega) (by omega)
  -- what is tested
  have htest : ((decide (q ≥ (4294967296 : Int))) || (decide (IntKind.u64.wrap (q * v2) > u2 + 4294967296 * r))) = true ↔ (4294967296 ≤ q ∨ r * 4294967296 + u2 < q * v2) := by
    rw [Bool.or_eq_true, decide_eq_true_eq, decide_eq_true_eq]
    by_cases hq : 4294967296 ≤ q
    · simp [hq]
    · have hp := mul_digits (a := q) (b := v2) z1 (by omega) (by omega) (by omega)
      rw [u64i hp.1 (by omega)]
      omega
  simp only [nat_guess_b1, nat_guess_j1, w1, w3, w4, w5, r2, s1, s2, xv1, xv2, o2, x2, x4, cond_some, Tot.cond_iff, Tot.ass_iff, Tot.bnd_iff, Tot.some_iff, Tot.map_iff, Tot.bind_iff, Nx.inl_iff, Nx.inr_iff, decide_eq_true_eq, decide_eq_false_iff_not]
  refine ⟨fun _ => ⟨by omega, by omega⟩, fun _ => by omega, fun _ => ⟨by omega, by omega⟩, fun hb => ?_, fun hb => ?_⟩
  · have hb' := htest.1 (by simpa using hb)
    have hbig := kn.big z1 z5 hb'
    rw [← eY, ← eW] at hbig
    have hq1 : 1 ≤ q := by
      rcases hb' with hb' | hb'
      · omega
      · rcases Int.lt_or_le q 1 with hc | hc
        · have : q = 0 := by omega
          rw [this] at hb'; omega
        · exact hc
    have x5 : IntKind.u64.wrap (q - 1) = q - 1 := u64i (by omega) (by omega)
    have z5' : (q - 1) * v1 + (r + v1) = u0 * 4294967296 + u1 := by rw [Int.sub_mul, Int.one_mul]; omega
    have z6' : (W : Int) < (q - 1 + 1) * (Y : Int) := by rw [show q - 1 + 1 = q from by omega]; exact hbig
    rw [x5]
    refine ⟨⟨by omega, by omega⟩, fun hge => ?_, fun hlt' => ⟨⟨by omega, by omega, by omega, by omega, z5', z6'⟩, by omega⟩⟩
    exact good _ (by omega) z6' (kn.near (by omega) (by omega) z5' (.inr (by omega)))
  · have hb' : ¬ (4294967296 ≤ q ∨ r * 4294967296 + u2 < q * v2) := fun hc => by
      have := htest.2 hc
      rw [this] at hb
      simp at hb
    exact good _ z1 z6 (kn.near z1 z3 z5 (.inl (by omega)))
end Go.Tom
