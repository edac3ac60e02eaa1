/- The program's long numbers: sums and differences. -/
import Derived.Test.YtomdhjdgcfcjdaaGreatDoorPN4
set_option linter.unusedVariables false
set_option linter.unusedSimpArgs false
namespace Go.Tom
open Go

/-- A word of two parts. -/
theorem orS {c a : Int} {s : Nat} (hs : s ≤ 64) (c0 : 0 ≤ c) (c1 : c < ((2 ^ s : Nat) : Int)) (a0 : 0 ≤ a) (a1 : a * ((2 ^ s : Nat) : Int) < 18446744073709551616) :
    ((BitVec.ofInt 64 c ||| BitVec.ofInt 64 (a * ((2 ^ s : Nat) : Int))).toNat : Int) = c + a * ((2 ^ s : Nat) : Int) := by
  obtain ⟨c, rfl⟩ := Int.eq_ofNat_of_zero_le c0
  obtain ⟨a, rfl⟩ := Int.eq_ofNat_of_zero_le a0
  have h64 : 2 ^ s ≤ 2 ^ 64 := Nat.pow_le_pow_right (by omega) hs
  have hc : c < 2 ^ s := by omega
  have ha : a * 2 ^ s < 2 ^ 64 := by
    have : ((a * 2 ^ s : Nat) : Int) < 18446744073709551616 := by rw [Int.natCast_mul]; exact a1
    omega
  rw [← Int.natCast_mul, BitVec.ofInt_natCast, BitVec.ofInt_natCast, BitVec.toNat_or, BitVec.toNat_ofNat, BitVec.toNat_ofNat, Nat.mod_eq_of_lt (by omega), Nat.mod_eq_of_lt ha, Nat.or_comm, Nat.mul_comm, ← Nat.two_pow_add_eq_or_of_lt hc]
  omega

theorem or32 {h l : Int} (h0 : 0 ≤ h) (h1 : h < 4294967296) (l0 : 0 ≤ l) (l1 : l < 4294967296) :
    ((BitVec.ofInt IntKind.u64.bits (IntKind.u64.wrap (h * 2 ^ (min (32 : Int).toNat IntKind.u64.bits))) ||| BitVec.ofInt IntKind.u64.bits (IntKind.u64.wrap l)).toNat : Int) = l + 4294967296 * h := by
  have e : (min (32 : Int).toNat IntKind.u64.bits) = 32 := by decide
  have e2 : IntKind.u64.bits = 64 := by decide
  rw [e, e2, u64i l0 (by omega), u64i (x := h * 2 ^ 32) (by omega) (by omega)]
  have := orS (c := l) (a := h) (s := 32) (by omega) l0 (by omega) h0 (by omega)
  rw [BitVec.or_comm]
  rw [show ((2 ^ 32 : Nat) : Int) = 4294967296 from by decide] at this
  rw [show (2 ^ 32 : Int) = 4294967296 from by decide, this]
  omega

theorem and32 {x : Int} (h0 : 0 ≤ x) (h1 : x < 18446744073709551616) :
    ((BitVec.ofInt IntKind.u64.bits x &&& BitVec.ofInt IntKind.u64.bits (4294967295 : Int)).toNat : Int) = x % 4294967296 := by
  obtain ⟨x, rfl⟩ := Int.eq_ofNat_of_zero_le h0
  rw [show IntKind.u64.bits = 64 from by decide, show (4294967295 : Int) = ((4294967295 : Nat) : Int) from rfl, BitVec.ofInt_natCast, BitVec.ofInt_natCast, BitVec.toNat_and, BitVec.toNat_ofNat, BitVec.toNat_ofNat, Nat.mod_eq_of_lt (by omega)]
  rw [show 4294967295 % 2 ^ 64 = 2 ^ 32 - 1 from by decide, Nat.and_two_pow_sub_one_eq_mod]
  omega

theorem fd32 {x : Int} : x.fdiv (2 ^ (min (32 : Int).toNat IntKind.u64.bits)) = x / 4294967296 := by
  rw [show (min (32 : Int).toNat IntKind.u64.bits) = 32 from by decide, show (2 ^ 32 : Int) = 4294967296 from by decide, Int.fdiv_eq_ediv_of_nonneg _ (by omega)]

theorem fd63 {x : Int} : x.fdiv (2 ^ (min (63 : Int).toNat IntKind.u64.bits)) = x / 9223372036854775808 := by
  rw [show (min (63 : Int).toNat IntKind.u64.bits) = 63 from by decide, show (2 ^ 63 : Int) = 9223372036854775808 from by decide, Int.fdiv_eq_ediv_of_nonneg _ (by omega)]

theorem u32m {x : Int} : IntKind.u32.wrap x = x % 4294967296 := by
  unfold IntKind.wrap
  simp [IntKind.bits, IntKind.signed]

theorem slices_Clone_api_Nat_uint32_eq {l : List Int} (hl : l.length ≤ 100000000) : slices_Clone_api_Nat_uint32 l = some l := by
  rw [← Tot.eq_iff]
  simp only [slices_Clone_api_Nat_uint32, cond_some, Tot.cond_iff, Tot.ass_iff, Tot.bnd_iff, Tot.some_iff, Tot.map_iff, Tot.bind_iff, Nx.inl_iff, Nx.inr_iff, decide_eq_true_eq, decide_eq_false_iff_not]
  simp only [List.length_nil, List.nil_append, and_true]
  unfold limA; omega

theorem nat_Cut_eq {l : List Int} (h : Dg 4294967296 l) (hl : l.length ≤ 10000000) : nat_Cut l = some (d32 (vl 4294967296 l).toNat) := by
  rw [← Tot.eq_iff]
  unfold nat_Cut
  refine Tot.loop (fun x => 0 ≤ x ∧ x ≤ (l.length : Int) ∧ ∀ i : Nat, x ≤ (i : Int) → i < l.length → rd 0 l i = 0) (fun x => x.toNat) (fun x hx => ?_) ⟨by omega, by omega, fun i _ _ => by omega⟩
  obtain ⟨h0, h1, h2⟩ := hx
  have hw : IntKind.i64.wrap (x - 1) = x - 1 := w64 (by omega) (by omega)
  have hcl : slices_Clone_api_Nat_uint32 (sl l 0 x) = some (sl l 0 x) := slices_Clone_api_Nat_uint32_eq (by rw [sl_zero, List.length_take]; omega)
  simp only [nat_Cut_b1, nat_Cut_j1, hw, hcl, Option.bind_some, cond_some, Tot.cond_iff, Tot.ass_iff, Tot.bnd_iff, Tot.some_iff, Tot.map_iff, Tot.bind_iff, Nx.inl_iff, Nx.inr_iff, decide_eq_true_eq, decide_eq_false_iff_not]
  refine ⟨fun hx => by omega, fun hc => ?_, fun hc => ?_⟩
  · simp only [Bool.and_eq_true, Bool.or_eq_true, Bool.not_eq_true', Bool.and_eq_false_iff, Bool.or_eq_false_iff, Bool.not_eq_false', beq_iff_eq, bne_iff_ne, beq_eq_false_iff_ne, bne_eq_false_iff_eq, decide_eq_true_eq, decide_eq_false_iff_not] at hc
    refine ⟨⟨by omega, by omega, fun i hi hil => ?_⟩, by omega⟩
    by_cases hix : (i : Int) = x - 1
    · rw [hix]; exact hc.2
    · exact h2 i (by omega) hil
  · simp only [Bool.and_eq_true, Bool.or_eq_true, Bool.not_eq_true', Bool.and_eq_false_iff, Bool.or_eq_false_iff, Bool.not_eq_false', beq_iff_eq, bne_iff_ne, beq_eq_false_iff_ne, bne_eq_false_iff_eq, decide_eq_true_eq, decide_eq_false_iff_not] at hc
    refine ⟨⟨by omega, h0, h1⟩, ?_⟩
    rw [sl_zero]
    refine cut_dg b32 h (k := x.toNat) (by omega) (fun i hi hil => h2 i (by omega) hil) ?_
    rcases hc with hc | hc
    · exact .inl (by omega)
    · by_cases hx0 : x = 0
      · left; omega
      · right
        have : ((x.toNat - 1 : Nat) : Int) = x - 1 := by omega
        rw [this]; exact hc

/-- A number's digits are as they were. -/
theorem nat_Cut_d32 {x : Nat} (hl : (d32 x).length ≤ 10000000) : nat_Cut (d32 x) = some (d32 x) := by
  rw [nat_Cut_eq (dg_Dg b32) hl, vl_dg b32, Int.toNat_natCast]

theorem nat_Of_eq {n : Nat} (h : n ≤ 18446744073709551615) : nat_Of (n : Int) = some (d32 n) := by
  rw [← Tot.eq_iff]
  have hd : Dg 4294967296 [IntKind.u32.wrap (n : Int), IntKind.u32.wrap ((n : Int).fdiv (2 ^ (min (32 : Int).toNat IntKind.u64.bits)))] := by
    rw [u32m, u32m]
    exact Dg.cons.2 ⟨by omega, Dg.cons.2 ⟨by omega, Dg.nil⟩⟩
  simp only [nat_Of, nat_Cut_eq hd (by simp), Option.bind_some, cond_some, Tot.cond_iff, Tot.ass_iff, Tot.bnd_iff, Tot.some_iff, Tot.map_iff, Tot.bind_iff, Nx.inl_iff, Nx.inr_iff, decide_eq_true_eq, decide_eq_false_iff_not]
  refine ⟨by omega, ?_⟩
  congr 1
  rw [fd32, u32m, u32m]
  simp only [vl]
  omega

theorem nat_at_eq (l : List Int) {i : Int} (h : 0 ≤ i) : nat_at l i = some (rd 0 l i) := by
  rw [← Tot.eq_iff]
  simp only [nat_at, cond_some, Tot.cond_iff, Tot.ass_iff, Tot.bnd_iff, Tot.some_iff, Tot.map_iff, Tot.bind_iff, Nx.inl_iff, Nx.inr_iff, decide_eq_true_eq, decide_eq_false_iff_not]
  refine ⟨fun hc => ⟨⟨h, hc⟩, by trivial⟩, fun hc => ?_⟩
  unfold rd
  rw [List.getD_eq_getElem?_getD, List.getElem?_eq_none (by omega)]
  rfl

theorem cmp_Compare_uint32_eq (x y : Int) : cmp_Compare_uint32 x y = some (if x < y then -1 else if y < x then 1 else 0) := by
  simp only [cmp_Compare_uint32, cmp_isNaN_uint32, bne_self_eq_false, bnd, Option.bind_some, cond_false, gt_iff_lt]
  by_cases h1 : x < y
  · simp [h1]
  · by_cases h2 : y < x <;> simp [h1, h2]

/-- A row of digits is that number: there may be noughts at its end. -/
def Is (a : List Int) (x : Nat) : Prop := Dg 4294967296 a ∧ vl 4294967296 a = (x : Int)

theorem Is.d32 (x : Nat) : Is (Tom.d32 x) x := ⟨dg_Dg b32, vl_dg b32⟩
theorem Is.of {a : List Int} (h : Dg 4294967296 a) : Is a (vl 4294967296 a).toNat := ⟨h, by have := vl_bound h; omega⟩
theorem Is.lt {a : List Int} {x : Nat} (h : Is a x) : x < 4294967296 ^ a.length := by have := (vl_bound h.1).2; rw [h.2] at this; exact_mod_cast this
theorem Is.len {a : List Int} {x : Nat} (h : Is a x) : (Tom.d32 x).length ≤ a.length := dg_len b32 h.lt
theorem Is.rd {a : List Int} {x : Nat} (h : Is a x) (i : Nat) : rd 0 a (i : Int) = ((dgt 4294967296 x i : Nat) : Int) := by
  rw [rd_vl b32 h.1, h.2]; unfold dgt; simp

theorem nat_Cmp_is {va vb : List Int} {x y : Nat} (iva : Is va x) (ivb : Is vb y) (hx : va.length ≤ 10000000) (hy : vb.length ≤ 10000000) : nat_Cmp va vb = some (cmpN x y) := by
  obtain ⟨n, hn⟩ : ∃ n, n = max va.length vb.length := ⟨_, rfl⟩
  have h1 : va.length ≤ n := by omega
  have h2 : vb.length ≤ n := by omega
  rw [← Tot.eq_iff]
  have hm : (if (vb.length : Int) > (va.length : Int) then (vb.length : Int) else (va.length : Int)) = (n : Int) := by split <;> omega
  have hw : IntKind.i64.wrap ((n : Int) - 1) = (n : Int) - 1 := w64 (by omega) (by omega)
  simp only [nat_Cmp, hm, hw, cond_some, Tot.cond_iff, Tot.ass_iff, Tot.bnd_iff, Tot.some_iff, Tot.map_iff, Tot.bind_iff, Nx.inl_iff, Nx.inr_iff, decide_eq_true_eq, decide_eq_false_iff_not]
  refine Tot.loop (fun i => ∃ k : Nat, i = (k : Int) - 1 ∧ k ≤ n ∧ x / 4294967296 ^ k = y / 4294967296 ^ k) (fun i => (i + 1).toNat) (fun i hi => ?_) ⟨n, rfl, Nat.le_refl _, by rw [dg_div_len b32 (Nat.le_trans iva.len h1), dg_div_len b32 (Nat.le_trans ivb.len h2)]⟩
  obtain ⟨k, rfl, hk, he⟩ := hi
  rcases Nat.eq_zero_or_pos k with hk0 | hk0
  · subst hk0
    simp only [nat_Cmp_b1, nat_Cmp_j1, cond_some, Tot.cond_iff, Tot.ass_iff, Tot.bnd_iff, Tot.some_iff, Tot.map_iff, Tot.bind_iff, Nx.inl_iff, Nx.inr_iff, decide_eq_true_eq, decide_eq_false_iff_not]
    refine ⟨fun hc => absurd hc (by omega), fun _ => ?_⟩
    simp only [Nat.pow_zero, Nat.div_one] at he
    simp [cmpN, he]
  · obtain ⟨j, rfl⟩ : ∃ j, k = j + 1 := ⟨k - 1, by omega⟩
    have hj : (((j + 1 : Nat) : Int) - 1) = (j : Int) := by omega
    have hw2 : IntKind.i64.wrap ((j : Int) - 1) = (j : Int) - 1 := w64 (by omega) (by omega)
    rw [hj]
    simp only [nat_Cmp_b1, nat_Cmp_j1, nat_at_eq _ (show (0 : Int) ≤ (j : Int) by omega), iva.rd, ivb.rd, hw2, cmp_Compare_uint32_eq, Option.bind_some, cond_some, Tot.cond_iff, Tot.ass_iff, Tot.bnd_iff, Tot.some_iff, Tot.map_iff, Tot.bind_iff, Nx.inl_iff, Nx.inr_iff, decide_eq_true_eq, decide_eq_false_iff_not]
    refine ⟨fun _ => ⟨fun hc => ?_, fun hc => ?_⟩, fun hc => absurd hc (by omega)⟩
    · rcases Nat.lt_trichotomy (dgt 4294967296 x j) (dgt 4294967296 y j) with hd | hd | hd
      · have := cmp_lt he hd
        rw [if_pos (by omega)]
        simp [cmpN, this]
      · rw [hd] at hc
        simp at hc
      · have := cmp_lt he.symm hd
        rw [if_neg (by omega), if_pos (by omega)]
        simp only [cmpN]
        rw [if_neg (by omega), if_pos this]
    · have hd : dgt 4294967296 x j = dgt 4294967296 y j := by
        simp only [Bool.and_eq_true, Bool.or_eq_true, Bool.not_eq_true', Bool.and_eq_false_iff, Bool.or_eq_false_iff, Bool.not_eq_false', beq_iff_eq, bne_iff_ne, beq_eq_false_iff_ne, bne_eq_false_iff_eq, decide_eq_true_eq, decide_eq_false_iff_not] at hc
        split at hc
        · omega
        · split at hc
          · omega
          · omega
      exact ⟨⟨j, rfl, by omega, cmp_eq he hd⟩, by omega⟩

theorem nat_Cmp_eq {x y : Nat} (hx : (d32 x).length ≤ 10000000) (hy : (d32 y).length ≤ 10000000) : nat_Cmp (d32 x) (d32 y) = some (cmpN x y) := nat_Cmp_is (Is.d32 x) (Is.d32 y) hx hy

theorem nat_plus_is {va vb : List Int} {x y : Nat} (iva : Is va x) (ivb : Is vb y) (hx : va.length ≤ 9000000) (hy : vb.length ≤ 9000000) : nat_plus va vb = some (d32 (x + y)) := by
  rw [← Tot.eq_iff]
  obtain ⟨m, hm⟩ : ∃ m, m = max va.length vb.length := ⟨_, rfl⟩
  have hmm : (if (vb.length : Int) > (va.length : Int) then (vb.length : Int) else (va.length : Int)) = (m : Int) := by split <;> omega
  have hw : IntKind.i64.wrap ((m : Int) + 1) = (m : Int) + 1 := w64 (by omega) (by omega)
  simp only [nat_plus, hmm, hw, cond_some, Tot.cond_iff, Tot.ass_iff, Tot.bnd_iff, Tot.some_iff, Tot.map_iff, Tot.bind_iff, Nx.inl_iff, Nx.inr_iff, decide_eq_true_eq, decide_eq_false_iff_not]
  refine Tot.loop (fun s => ∃ i : Nat, s.2.2 = (i : Int) ∧ i ≤ m + 1 ∧ s.1.length = i ∧ Dg 4294967296 s.1 ∧ (s.2.1 = 0 ∨ s.2.1 = 1) ∧ (i = m + 1 → s.2.1 = 0) ∧ vl 4294967296 s.1 + s.2.1 * ((4294967296 ^ i : Nat) : Int) = ((x % 4294967296 ^ i : Nat) : Int) + ((y % 4294967296 ^ i : Nat) : Int))
    (fun s => ((m : Int) + 1 - s.2.2).toNat) (fun s hs => ?_) ⟨0, rfl, by omega, rfl, Dg.nil, .inl rfl, fun _ => rfl, by simp [vl, Nat.mod_one]⟩
  obtain ⟨l, u, i0⟩ := s
  obtain ⟨i, h1, h2, h3, h4, h5, h5', h6⟩ := hs
  simp only at h1 h3 h4 h5 h5' h6
  subst h1
  have hdx := dgt_lt (B := 4294967296) (x := x) (i := i) (by omega)
  have hdy := dgt_lt (B := 4294967296) (x := y) (i := i) (by omega)
  obtain ⟨a, ha⟩ : ∃ a : Int, a = ((dgt 4294967296 x i : Nat) : Int) := ⟨_, rfl⟩
  obtain ⟨b, hb⟩ : ∃ b : Int, b = ((dgt 4294967296 y i : Nat) : Int) := ⟨_, rfl⟩
  have hw1 : IntKind.u64.wrap a = a := u64i (by omega) (by omega)
  have hw2 : IntKind.u64.wrap b = b := u64i (by omega) (by omega)
  have hw3 : IntKind.u64.wrap (a + b) = a + b := u64i (by omega) (by omega)
  have hw4 : IntKind.u64.wrap (u + (a + b)) = u + (a + b) := u64i (by omega) (by omega)
  have hw5 : IntKind.i64.wrap ((i : Int) + 1) = (i : Int) + 1 := w64 (by omega) (by omega)
  simp only [nat_plus_b1, nat_plus_j1, nat_at_eq _ (show (0 : Int) ≤ (i : Int) by omega), iva.rd, ivb.rd, ← ha, ← hb, hw1, hw2, hw3, hw4, hw5, fd32, u32m, cond_some, Tot.cond_iff, Tot.ass_iff, Tot.bnd_iff, Tot.some_iff, Tot.map_iff, Tot.bind_iff, Nx.inl_iff, Nx.inr_iff, decide_eq_true_eq, decide_eq_false_iff_not]
  refine ⟨fun hc => ?_, fun hc => ?_⟩
  · refine ⟨by simp only [List.length_singleton]; unfold limA; omega, by omega, ⟨i + 1, by simp, by omega, by simp [h3], h4.snoc (by omega) (by omega), by omega, fun him => ?_, ?_⟩, by omega⟩
    · have e1 : dgt 4294967296 x i = 0 := by unfold dgt; rw [dg_div_len (x := x) (k := i) b32 (Nat.le_trans iva.len (show va.length ≤ i by omega))]
      have e2 : dgt 4294967296 y i = 0 := by unfold dgt; rw [dg_div_len (x := y) (k := i) b32 (Nat.le_trans ivb.len (show vb.length ≤ i by omega))]
      rw [ha, hb, e1, e2]
      omega
    · rw [vl_snoc, h3, cast_up, cast_up, Nat.pow_succ, Int.natCast_mul, ← ha, ← hb]
      have hs : u + (a + b) = (u + (a + b)) / 4294967296 * 4294967296 + (u + (a + b)) % 4294967296 := by omega
      generalize (u + (a + b)) / 4294967296 = q at hs ⊢
      generalize (u + (a + b)) % 4294967296 = r at hs ⊢
      generalize ((4294967296 ^ i : Nat) : Int) = M at h6 ⊢
      have : M * (u + (a + b)) = M * (q * 4294967296 + r) := by rw [hs]
      grind
  · have hi : va.length ≤ i ∧ vb.length ≤ i := by omega
    rw [dg_mod_len b32 (Nat.le_trans iva.len hi.1), dg_mod_len b32 (Nat.le_trans ivb.len hi.2)] at h6
    rw [nat_Cut_eq h4 (by omega)]
    have hu : u = 0 := h5' (by omega)
    rw [hu] at h6
    refine Tot.some_iff.2 ?_
    congr 1
    omega

theorem nat_plus_eq {x y : Nat} (hx : (d32 x).length ≤ 9000000) (hy : (d32 y).length ≤ 9000000) : nat_plus (d32 x) (d32 y) = some (d32 (x + y)) := nat_plus_is (Is.d32 x) (Is.d32 y) hx hy

theorem d32_mono {x y : Nat} (h : x ≤ y) : (d32 x).length ≤ (d32 y).length := dg_len b32 (Nat.lt_of_le_of_lt h (dg_lt b32))

/-- The sum of many. -/
def sumN (l : List Nat) : Nat := l.foldl (· + ·) 0

theorem fd63w {x : Int} (h0 : -4294967296 ≤ x) (h1 : x < 4294967296) : IntKind.u64.wrap x / 9223372036854775808 = if x < 0 then 1 else 0 := by
  have : IntKind.u64.wrap x = x % 18446744073709551616 := by
    unfold IntKind.wrap
    simp [IntKind.bits, IntKind.signed]
  rw [this]
  split <;> omega

theorem u32u64 {x : Int} : IntKind.u32.wrap (IntKind.u64.wrap x) = x % 4294967296 := by
  have : IntKind.u64.wrap x = x % 18446744073709551616 := by
    unfold IntKind.wrap
    simp [IntKind.bits, IntKind.signed]
  rw [this, u32m]
  omega

/-- A difference in words, wrapped once. -/
theorem u64_sub {x y : Int} : IntKind.u64.wrap (IntKind.u64.wrap x - y) = IntKind.u64.wrap (x - y) := by
  have h : ∀ z : Int, IntKind.u64.wrap z = z % 18446744073709551616 := fun z => by
    unfold IntKind.wrap
    simp [IntKind.bits, IntKind.signed]
  rw [h, h, h]
  omega

end Go.Tom
