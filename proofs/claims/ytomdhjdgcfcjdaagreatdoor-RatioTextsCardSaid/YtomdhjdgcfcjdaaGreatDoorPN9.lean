/- A multiple taken away, and one laid back. -/
import Derived.Test.YtomdhjdgcfcjdaaGreatDoorPN8
set_option linter.unusedVariables false
set_option linter.unusedSimpArgs false
namespace Go.Tom
open Go

theorem dgt_out {Y n i : Nat} (h : (d32 Y).length ≤ i) : dgt 4294967296 Y i = 0 := by
  unfold dgt; rw [dg_div_len (x := Y) (k := i) b32 (show (d32 Y).length ≤ i from h)]

theorem nat_away_tot {u : List Int} {U : Int} {Y n j g : Nat} (hu : Dg 4294967296 u) (hU : vl 4294967296 u = U) (hv : (d32 Y).length = n) (hj : j + n < u.length) (hlen : u.length ≤ 5000000) (hg : g < 4294967296) :
    Tot (nat_away u (d32 Y) (j : Int) (g : Int)) (fun r => r.2.length = u.length ∧ Dg 4294967296 r.2 ∧ vl 4294967296 r.2 = U - ((4294967296 ^ j * (g * Y) : Nat) : Int) + (if r.1 = true then 1 else 0) * ((4294967296 ^ (j + (n + 1)) : Nat) : Int) ∧ ∀ k : Nat, j + (n + 1) ≤ k → rd 0 r.2 (k : Int) = rd 0 u (k : Int)) := by
  have w1 : IntKind.i64.wrap (((d32 Y).length : Int) + 1) = ((n + 1 : Nat) : Int) := by rw [w64 (by omega) (by omega)]; omega
  simp only [nat_away, w1, cond_some, Tot.cond_iff, Tot.ass_iff, Tot.bnd_iff, Tot.some_iff, Tot.map_iff, Tot.bind_iff, Nx.inl_iff, Nx.inr_iff, decide_eq_true_eq, decide_eq_false_iff_not]
  refine Tot.loop (fun z => ∃ i : Nat, z.2.2.2 = (i : Int) ∧ i ≤ n + 1 ∧ z.1.length = u.length ∧ Dg 4294967296 z.1 ∧ 0 ≤ z.2.1 ∧ z.2.1 < 4294967296 ∧ (z.2.2.1 = 0 ∨ z.2.2.1 = 1) ∧ (i = n + 1 → z.2.1 = 0) ∧
      vl 4294967296 z.1 = U - ((4294967296 ^ j * (g * (Y % 4294967296 ^ i)) : Nat) : Int) + (z.2.1 + z.2.2.1) * ((4294967296 ^ (j + i) : Nat) : Int) ∧ ∀ k : Nat, j + i ≤ k → rd 0 z.1 (k : Int) = rd 0 u (k : Int))
    (fun z => ((n : Int) + 1 - z.2.2.2).toNat) (fun z hz => ?_) ⟨0, rfl, by omega, rfl, hu, Int.le_refl _, by show (0 : Int) < 4294967296; omega, .inl rfl, fun h => by omega, by simp [hU, Nat.mod_one], fun k _ => rfl⟩
  obtain ⟨l, c, b, i0⟩ := z
  obtain ⟨i, h1, h2, h3, h4, h5, h6, h7, h8, h9, h10⟩ := hz
  simp only at h1 h3 h4 h5 h6 h7 h8 h9 h10
  subst h1
  obtain ⟨d, hd⟩ : ∃ d : Int, d = ((dgt 4294967296 Y i : Nat) : Int) := ⟨_, rfl⟩
  have hdb := dgt_lt (B := 4294967296) (x := Y) (i := i) (by omega)
  obtain ⟨a, ha⟩ : ∃ a : Int, a = rd 0 l ((j + i : Nat) : Int) := ⟨_, rfl⟩
  have hab := h4.rd (by omega) ((j + i : Nat) : Int)
  rw [← ha] at hab
  have hp := mul_digits (a := (g : Int)) (b := d) (by omega) (by omega) (by omega) (by omega)
  have hji : IntKind.i64.wrap ((j : Int) + (i : Int)) = ((j + i : Nat) : Int) := by rw [w64 (by omega) (by omega)]; omega
  have x1 : IntKind.u64.wrap d = d := u64i (by omega) (by omega)
  have x2 : IntKind.u64.wrap ((g : Int) * d) = (g : Int) * d := u64i hp.1 (by omega)
  obtain ⟨t, ht⟩ : ∃ t : Int, t = c + (g : Int) * d := ⟨_, rfl⟩
  have htb : 0 ≤ t ∧ t ≤ 18446744069414584320 := by omega
  have x3 : IntKind.u64.wrap t = t := u64i (by omega) (by omega)
  have x4 : IntKind.u64.wrap a = a := u64i (by omega) (by omega)
  have o1 := and32 (x := t) (by omega) (by omega)
  have x5 : IntKind.u64.wrap (t % 4294967296) = t % 4294967296 := u64i (by omega) (by omega)
  have x6 : IntKind.i64.wrap ((i : Int) + 1) = (i : Int) + 1 := w64 (by omega) (by omega)
  simp only [nat_away_b1, nat_away_j1, nat_at_eq _ (show (0 : Int) ≤ (i : Int) by omega), rd_dgt b32, hji, ← ha, ← hd, x1, x2, ← ht, x3, x4, o1, x5, x6, u64_sub, fd63, fd32, u32u64, fd63w (x := a - t % 4294967296 - b) (by omega) (by omega), cond_some, Tot.cond_iff, Tot.ass_iff, Tot.bnd_iff, Tot.some_iff, Tot.map_iff, Tot.bind_iff, Nx.inl_iff, Nx.inr_iff, decide_eq_true_eq, decide_eq_false_iff_not]
  refine ⟨fun hc => ⟨⟨by omega, by omega⟩, ⟨by omega, by omega⟩, by omega, by omega, ⟨i + 1, by simp, by omega, by rw [wr_length]; exact h3, h4.wr (by omega) (by omega), by omega, by omega, by split <;> simp, fun hin => ?_, ?_, fun k hk => ?_⟩, by omega⟩, fun hc => ⟨h3, h4, ?_, fun k hk => h10 k (by omega)⟩⟩
  · have hz : d = 0 := by rw [hd, dgt_out (n := n) (by omega)]; rfl
    rw [hz, Int.mul_zero] at ht
    omega
  · rw [vl_wr (by omega), ← ha, h9, mod_up, show j + (i + 1) = j + i + 1 from rfl, Nat.pow_succ 4294967296 (j + i)]
    have hs : (a - t % 4294967296 - b) % 4294967296 = (a - t % 4294967296 - b) + (if a - t % 4294967296 - b < 0 then 1 else 0) * 4294967296 := by split <;> omega
    rw [hs]
    generalize (if a - t % 4294967296 - b < 0 then (1 : Int) else 0) = L
    have hs2 : t % 4294967296 = t - 4294967296 * (t / 4294967296) := by omega
    rw [hs2, ht]
    generalize (c + (g : Int) * d) / 4294967296 = q
    rw [Nat.pow_add]
    simp only [Int.natCast_add, Int.natCast_mul, ← hd]
    generalize ((4294967296 ^ i : Nat) : Int) = I
    generalize ((4294967296 ^ j : Nat) : Int) = J
    rw [show ((4294967296 : Nat) : Int) = 4294967296 from rfl]
    grind
  · rw [rd_wr (by omega) (by omega) (by omega), if_neg (by omega)]
    exact h10 k (by omega)
  · have hin : i = n + 1 := by omega
    subst hin
    have hY : Y % 4294967296 ^ (n + 1) = Y := dg_mod_len (x := Y) b32 (show (d32 Y).length ≤ n + 1 by omega)
    rw [hY, h8 rfl] at h9
    rw [h9]
    rcases h7 with h7 | h7 <;> simp [h7]

theorem nat_back_tot {u : List Int} {U : Int} {Y n j : Nat} (hu : Dg 4294967296 u) (hU : vl 4294967296 u = U) (hv : (d32 Y).length = n) (hj : j + n < u.length) (hlen : u.length ≤ 5000000) :
    Tot (nat_back u (d32 Y) (j : Int)) (fun r => r.length = u.length ∧ Dg 4294967296 r ∧ (∃ c : Int, (c = 0 ∨ c = 1) ∧ vl 4294967296 r = U + ((4294967296 ^ j * Y : Nat) : Int) - c * ((4294967296 ^ (j + (n + 1)) : Nat) : Int)) ∧ ∀ k : Nat, j + (n + 1) ≤ k → rd 0 r (k : Int) = rd 0 u (k : Int)) := by
  have w1 : IntKind.i64.wrap (((d32 Y).length : Int) + 1) = ((n + 1 : Nat) : Int) := by rw [w64 (by omega) (by omega)]; omega
  simp only [nat_back, w1, cond_some, Tot.cond_iff, Tot.ass_iff, Tot.bnd_iff, Tot.some_iff, Tot.map_iff, Tot.bind_iff, Nx.inl_iff, Nx.inr_iff, decide_eq_true_eq, decide_eq_false_iff_not]
  refine Tot.loop (fun z => ∃ i : Nat, z.2.2 = (i : Int) ∧ i ≤ n + 1 ∧ z.1.length = u.length ∧ Dg 4294967296 z.1 ∧ (z.2.1 = 0 ∨ z.2.1 = 1) ∧
      vl 4294967296 z.1 = U + ((4294967296 ^ j * (Y % 4294967296 ^ i) : Nat) : Int) - z.2.1 * ((4294967296 ^ (j + i) : Nat) : Int) ∧ ∀ k : Nat, j + i ≤ k → rd 0 z.1 (k : Int) = rd 0 u (k : Int))
    (fun z => ((n : Int) + 1 - z.2.2).toNat) (fun z hz => ?_) ⟨0, rfl, by omega, rfl, hu, .inl rfl, by simp [hU, Nat.mod_one], fun k _ => rfl⟩
  obtain ⟨l, c, i0⟩ := z
  obtain ⟨i, h1, h2, h3, h4, h7, h9, h10⟩ := hz
  simp only at h1 h3 h4 h7 h9 h10
  subst h1
  obtain ⟨d, hd⟩ : ∃ d : Int, d = ((dgt 4294967296 Y i : Nat) : Int) := ⟨_, rfl⟩
  have hdb := dgt_lt (B := 4294967296) (x := Y) (i := i) (by omega)
  obtain ⟨a, ha⟩ : ∃ a : Int, a = rd 0 l ((j + i : Nat) : Int) := ⟨_, rfl⟩
  have hab := h4.rd (by omega) ((j + i : Nat) : Int)
  rw [← ha] at hab
  have hji : IntKind.i64.wrap ((j : Int) + (i : Int)) = ((j + i : Nat) : Int) := by rw [w64 (by omega) (by omega)]; omega
  have x1 : IntKind.u64.wrap d = d := u64i (by omega) (by omega)
  have x2 : IntKind.u64.wrap a = a := u64i (by omega) (by omega)
  have x3 : IntKind.u64.wrap (a + d) = a + d := u64i (by omega) (by omega)
  obtain ⟨t, ht⟩ : ∃ t : Int, t = c + (a + d) := ⟨_, rfl⟩
  have x4 : IntKind.u64.wrap t = t := u64i (by omega) (by omega)
  have x6 : IntKind.i64.wrap ((i : Int) + 1) = (i : Int) + 1 := w64 (by omega) (by omega)
  simp only [nat_back_b1, nat_at_eq _ (show (0 : Int) ≤ (i : Int) by omega), rd_dgt b32, hji, ← ha, ← hd, x1, x2, x3, ← ht, x4, x6, fd32, u32m, cond_some, Tot.cond_iff, Tot.ass_iff, Tot.bnd_iff, Tot.some_iff, Tot.map_iff, Tot.bind_iff, Nx.inl_iff, Nx.inr_iff, decide_eq_true_eq, decide_eq_false_iff_not]
  refine ⟨fun hc => ⟨⟨by omega, by omega⟩, ⟨by omega, by omega⟩, by omega, ⟨i + 1, by simp, by omega, by rw [wr_length]; exact h3, h4.wr (by omega) (by omega), by omega, ?_, fun k hk => ?_⟩, by omega⟩, fun hc => ⟨h3, h4, ?_, fun k hk => h10 k (by omega)⟩⟩
  · rw [vl_wr (by omega), ← ha, h9, mod_up, show j + (i + 1) = j + i + 1 from rfl, Nat.pow_succ 4294967296 (j + i)]
    have hs2 : t % 4294967296 = t - 4294967296 * (t / 4294967296) := by omega
    rw [hs2]
    generalize t / 4294967296 = q
    rw [ht, Nat.pow_add]
    simp only [Int.natCast_add, Int.natCast_mul, ← hd]
    generalize ((4294967296 ^ i : Nat) : Int) = I
    generalize ((4294967296 ^ j : Nat) : Int) = J
    rw [show ((4294967296 : Nat) : Int) = 4294967296 from rfl]
    grind
  · rw [rd_wr (by omega) (by omega) (by omega), if_neg (by omega)]
    exact h10 k (by omega)
  · have hin : i = n + 1 := by omega
    subst hin
    have hY : Y % 4294967296 ^ (n + 1) = Y := dg_mod_len (x := Y) b32 (show (d32 Y).length ≤ n + 1 by omega)
    rw [hY] at h9
    exact ⟨c, h7, h9⟩
end Go.Tom
