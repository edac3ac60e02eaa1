/- From the program's long numbers to the document's, and back. -/
import Derived.Test.YtomdhjdgcfcjdaaGreatDoorPN3
set_option linter.unusedVariables false
set_option linter.unusedSimpArgs false
namespace Go.Tom
open Go

theorem vl_take_succ {B : Nat} {l : List Int} {i : Nat} (hi : i < l.length) : vl B (l.take (i + 1)) = vl B (l.take i) + ((B ^ i : Nat) : Int) * rd 0 l (i : Int) := by
  rw [List.take_succ_eq_append_getElem hi, vl_snoc, List.length_take, Nat.min_eq_left (by omega), rd_eq i rfl hi]

theorem pow32 (i : Nat) : 65536 ^ (2 * i) = 4294967296 ^ i := by
  rw [Nat.pow_mul]

theorem r03_In_eq {a : List Int} (h : Dg 4294967296 a) (hl : a.length ≤ 4000000) : r03_In a = some (d16 (vl 4294967296 a).toNat) := by
  rw [← Tot.eq_iff]
  unfold r03_In
  refine Tot.loop (fun s => ∃ i : Nat, s.2 = (i : Int) ∧ i ≤ a.length ∧ s.1.length = 2 * i ∧ Dg 65536 s.1 ∧ vl 65536 s.1 = vl 4294967296 (a.take i)) (fun s => ((a.length : Int) - s.2).toNat) (fun s hs => ?_) ⟨0, rfl, by omega, rfl, Dg.nil, by simp [vl]⟩
  obtain ⟨l, i0⟩ := s
  obtain ⟨i, h1, h2, h3, h4, h5⟩ := hs
  simp only at h1 h3 h4 h5
  subst h1
  have hd := h.rd (by omega) (i : Int)
  obtain ⟨t, ht⟩ : ∃ t, t = rd 0 a (i : Int) := ⟨_, rfl⟩
  rw [← ht] at hd
  obtain ⟨t1, t2⟩ := tdivmod (a := t) (b := 65536) (by omega)
  have hw1 : IntKind.i64.wrap (t % 65536) = t % 65536 := w64 (by omega) (by omega)
  have hw2 : IntKind.u32.wrap (t / 65536) = t / 65536 := u32i (by omega) (by omega)
  have hw3 : IntKind.i64.wrap (t / 65536) = t / 65536 := w64 (by omega) (by omega)
  have hw4 : IntKind.i64.wrap ((i : Int) + 1) = (i : Int) + 1 := w64 (by omega) (by omega)
  simp only [r03_In_b1, r03_In_j1, ← ht, t1, t2, hw1, hw2, hw3, hw4, cond_some, Tot.cond_iff, Tot.ass_iff, Tot.bnd_iff, Tot.some_iff, Tot.map_iff, Tot.bind_iff, Nx.inl_iff, Nx.inr_iff, decide_eq_true_eq, decide_eq_false_iff_not]
  refine ⟨fun hc => ⟨⟨by omega, hc⟩, by simp, by simp only [List.length_cons, List.length_nil]; unfold limA; omega, ⟨i + 1, by simp, by omega, by simp only [List.length_append, List.length_cons, List.length_nil]; omega, ?_, ?_⟩, by omega⟩, fun hc => ?_⟩
  · exact Dg.append.2 ⟨h4, Dg.cons.2 ⟨by omega, Dg.cons.2 ⟨by omega, Dg.nil⟩⟩⟩
  · rw [vl_append, vl_take_succ (by omega), h5, h3, pow32, ← ht]
    simp only [vl]
    congr 2
    rw [show ((65536 : Nat) : Int) = 65536 from rfl]
    omega
  · rw [List.take_of_length_le (by omega)] at h5
    rw [r01_Cut_eq h4 (by omega), h5]
    exact Tot.some_iff.2 rfl

theorem dg_top {B n : Nat} (hB : 2 ≤ B) (h : dg B n ≠ []) : rd 0 (dg B n) (((dg B n).length - 1 : Nat) : Int) ≠ 0 := by
  have h1 := dg_last hB (n := n)
  have hp := List.length_pos_iff.2 h
  rw [List.getLast?_eq_getElem?, List.getElem?_eq_getElem (by omega)] at h1
  rw [rd_eq ((dg B n).length - 1) rfl (by omega)]
  exact fun hc => h1 (by rw [hc])

theorem r03_Out_eq {x : Nat} (hl : (d16 x).length ≤ 4000000) : r03_Out (d16 x) = some (d32 x) := by
  rw [← Tot.eq_iff]
  unfold r03_Out
  refine Tot.loop (fun s => ∃ j : Nat, s.2 = ((2 * j : Nat) : Int) ∧ 2 * j ≤ (d16 x).length + 1 ∧ s.1.length = j ∧ Dg 4294967296 s.1 ∧ vl 4294967296 s.1 = ((x % 4294967296 ^ j : Nat) : Int) ∧ ((d16 x).length ≤ 2 * j → s.1.getLast? ≠ some 0))
    (fun s => (((d16 x).length : Int) + 1 - s.2).toNat) (fun s hs => ?_) ⟨0, rfl, by omega, rfl, Dg.nil, by simp [vl, Nat.mod_one], fun _ => by simp⟩
  obtain ⟨l, i0⟩ := s
  obtain ⟨j, h1, h2, h3, h4, h5, h6⟩ := hs
  simp only at h1 h3 h4 h5 h6
  subst h1
  have hd0 := dgt_lt (B := 65536) (x := x) (i := 2 * j) (by omega)
  have hd1 := dgt_lt (B := 65536) (x := x) (i := 2 * j + 1) (by omega)
  have hw1 : IntKind.i64.wrap (((2 * j : Nat) : Int) + 1) = ((2 * j + 1 : Nat) : Int) := by rw [w64 (by omega) (by omega)]; omega
  have hw2 : IntKind.i64.wrap (((2 * j : Nat) : Int) + 2) = ((2 * (j + 1) : Nat) : Int) := by rw [w64 (by omega) (by omega)]; omega
  have hw3 : IntKind.u32.wrap ((dgt 65536 x (2 * j) : Nat) : Int) = ((dgt 65536 x (2 * j) : Nat) : Int) := u32i (by omega) (by omega)
  have hw4 : IntKind.u32.wrap ((dgt 65536 x (2 * j + 1) : Nat) : Int) = ((dgt 65536 x (2 * j + 1) : Nat) : Int) := u32i (by omega) (by omega)
  have hw5 : IntKind.u32.wrap (((dgt 65536 x (2 * j + 1) : Nat) : Int) * 65536) = ((dgt 65536 x (2 * j + 1) : Nat) : Int) * 65536 := u32i (by omega) (by omega)
  have hw6 : IntKind.u32.wrap (((dgt 65536 x (2 * j) : Nat) : Int) + ((dgt 65536 x (2 * j + 1) : Nat) : Int) * 65536) = ((dgt 65536 x (2 * j) : Nat) : Int) + ((dgt 65536 x (2 * j + 1) : Nat) : Int) * 65536 := u32i (by omega) (by omega)
  have htop : (d16 x).length ≠ 0 → dgt 65536 x ((d16 x).length - 1) ≠ 0 := fun hn => by
    have := dg_top b16 (n := x) (fun hc => hn (by rw [d16, hc]; rfl))
    rw [rd_dgt b16] at this
    exact fun hc => this (by rw [d16] at hc; rw [hc]; rfl)
  have e : 4294967296 ^ (j + 1) = 65536 ^ (2 * j + 1 + 1) := by rw [show 2 * j + 1 + 1 = 2 * (j + 1) from by omega, pow32]
  have hval : ((x % 4294967296 ^ (j + 1) : Nat) : Int) = ((x % 4294967296 ^ j : Nat) : Int) + ((4294967296 ^ j : Nat) : Int) * (((dgt 65536 x (2 * j) : Nat) : Int) + ((dgt 65536 x (2 * j + 1) : Nat) : Int) * 65536) := by
    rw [e, mod_up, mod_up, Nat.pow_succ 65536 (2 * j), pow32]
    simp only [Int.natCast_add, Int.natCast_mul, Int.mul_add]
    rw [show ((65536 : Nat) : Int) = 65536 from rfl]
    grind
  simp only [r03_Out_b1, r03_Out_j1, r03_Out_j2, rd_dgt b16, hw1, hw2, hw3, hw4, hw5, hw6, cond_some, Tot.cond_iff, Tot.ass_iff, Tot.bnd_iff, Tot.some_iff, Tot.map_iff, Tot.bind_iff, Nx.inl_iff, Nx.inr_iff, decide_eq_true_eq, decide_eq_false_iff_not]
  refine ⟨fun hc => ⟨⟨by omega, hc⟩, fun hc2 => ⟨⟨by omega, hc2⟩, by simp only [List.length_singleton]; unfold limA; omega, ⟨j + 1, rfl, by omega, by simp [h3], h4.snoc (by omega) (by omega), ?_, fun hle => ?_⟩, by omega⟩,
    fun hc2 => ⟨by simp only [List.length_singleton]; unfold limA; omega, ⟨j + 1, rfl, by omega, by simp [h3], h4.snoc (by omega) (by omega), ?_, fun hle => ?_⟩, by omega⟩⟩, fun hc => ?_⟩
  · rw [vl_snoc, h5, h3, hval]
  · have hlen : (d16 x).length = 2 * j + 2 := by omega
    have := htop (by omega)
    rw [hlen, show 2 * j + 2 - 1 = 2 * j + 1 from by omega] at this
    rw [List.getLast?_append]
    simp
    omega
  · have hlen : (d16 x).length = 2 * j + 1 := by omega
    have hz : dgt 65536 x (2 * j + 1) = 0 := by unfold dgt; rw [dg_div_len (x := x) (k := 2 * j + 1) b16 (show (d16 x).length ≤ 2 * j + 1 by omega)]
    rw [vl_snoc, h5, h3, hval, hz]
    simp
  · have hlen : (d16 x).length = 2 * j + 1 := by omega
    have := htop (by omega)
    rw [hlen, show 2 * j + 1 - 1 = 2 * j from by omega] at this
    rw [List.getLast?_append]
    simp
    omega
  · have hx : x % 4294967296 ^ j = x := by
      refine Nat.mod_eq_of_lt ?_
      rw [← pow32]
      exact Nat.lt_of_lt_of_le (dg_lt b16) (Nat.pow_le_pow_right (by omega) (show (d16 x).length ≤ 2 * j by omega))
    rw [hx] at h5
    have := dg_of b32 h4 (h6 (by omega))
    rw [h5, Int.toNat_natCast] at this
    exact this

theorem r03_Same_eq (a b : List Int) (ha : a.length ≤ 100000000) : r03_Same a b = some (decide (a = b)) := by
  suffices hh : Tot (r03_Same a b) (fun r => r = true ↔ a = b) by
    rw [hh.dec]
    congr 1
    by_cases h : a = b <;> simp [h]
  simp only [r03_Same, cond_some, Tot.cond_iff, Tot.ass_iff, Tot.bnd_iff, Tot.some_iff, Tot.map_iff, Tot.bind_iff, Nx.inl_iff, Nx.inr_iff, decide_eq_true_eq, decide_eq_false_iff_not]
  refine ⟨fun h => ?_, fun h => ?_⟩
  · simp only [Bool.and_eq_true, Bool.or_eq_true, Bool.not_eq_true', Bool.and_eq_false_iff, Bool.or_eq_false_iff, Bool.not_eq_false', beq_iff_eq, bne_iff_ne, beq_eq_false_iff_ne, bne_eq_false_iff_eq, decide_eq_true_eq, decide_eq_false_iff_not] at h
    simp only [Bool.false_eq_true, false_iff]
    intro hc; rw [hc] at h; exact h rfl
  · simp only [Bool.and_eq_true, Bool.or_eq_true, Bool.not_eq_true', Bool.and_eq_false_iff, Bool.or_eq_false_iff, Bool.not_eq_false', beq_iff_eq, bne_iff_ne, beq_eq_false_iff_ne, bne_eq_false_iff_eq, decide_eq_true_eq, decide_eq_false_iff_not] at h
    refine Tot.loop (fun x => 0 ≤ x ∧ x ≤ (a.length : Int) ∧ ∀ k : Int, 0 ≤ k → k < x → rd 0 a k = rd 0 b k) (fun x => ((a.length : Int) - x).toNat) (fun x hx => ?_) ⟨by omega, by omega, fun k _ _ => by omega⟩
    obtain ⟨h0, h1, h2⟩ := hx
    have hw1 : IntKind.i64.wrap (x + 1) = x + 1 := w64 (by omega) (by omega)
    simp only [r03_Same_b1, r03_Same_j1, hw1, cond_some, Tot.cond_iff, Tot.ass_iff, Tot.bnd_iff, Tot.some_iff, Tot.map_iff, Tot.bind_iff, Nx.inl_iff, Nx.inr_iff, decide_eq_true_eq, decide_eq_false_iff_not]
    refine ⟨fun hlt => ⟨⟨h0, hlt⟩, ⟨h0, by omega⟩, fun he => ?_, fun he => ⟨⟨by omega, by omega, fun k c d => ?_⟩, by omega⟩⟩, fun hge => ?_⟩
    · simp only [Bool.and_eq_true, Bool.or_eq_true, Bool.not_eq_true', Bool.and_eq_false_iff, Bool.or_eq_false_iff, Bool.not_eq_false', beq_iff_eq, bne_iff_ne, beq_eq_false_iff_ne, bne_eq_false_iff_eq, decide_eq_true_eq, decide_eq_false_iff_not] at he
      simp only [Bool.false_eq_true, false_iff]
      intro hc; rw [hc] at he; exact he rfl
    · simp only [Bool.and_eq_true, Bool.or_eq_true, Bool.not_eq_true', Bool.and_eq_false_iff, Bool.or_eq_false_iff, Bool.not_eq_false', beq_iff_eq, bne_iff_ne, beq_eq_false_iff_ne, bne_eq_false_iff_eq, decide_eq_true_eq, decide_eq_false_iff_not] at he
      by_cases hkx : k = x
      · rw [hkx]; exact he
      · exact h2 k c (by omega)
    · simp only [true_iff]
      refine List.ext_getElem (by omega) fun k hk1 hk2 => ?_
      have := h2 k (by omega) (by omega)
      rwa [rd_eq k rfl hk1, rd_eq k rfl hk2] at this
end Go.Tom
